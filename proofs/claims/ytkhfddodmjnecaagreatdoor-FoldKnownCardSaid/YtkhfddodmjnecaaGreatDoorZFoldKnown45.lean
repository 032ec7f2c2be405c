/-
 What the document has in the place of an instruction, and as a block's end (rushlightref17.Known, Ended).; What few modules are like: plain.; A procedure of which a statement speaks: what its fold owes.; fold's statements: is a table as the document has it?
-/
import Derived.Test.YtkhfddodmjnecaaGreatDoorZFoldKnown42
import Derived.Test.YtkhfddodmjnecaaGreatDoorZFoldKnown44
import Derived.Test.YtkhfddodmjnecaaGreatDoorZFoldKnown13
import Derived.Test.YtkhfddodmjnecaaGreatDoorZFoldKnown28
import Derived.Test.YtkhfddodmjnecaaGreatDoorZFoldKnown37
import Derived.Test.YtkhfddodmjnecaaGreatDoorZFoldKnown35
import Derived.Test.YtkhfddodmjnecaaGreatDoorZFoldKnown34

set_option linter.all false
namespace Go.Proofs.YtkhfddodmjnecaaGreatDoor
open Go.ChangeShapes Go.WideShapes Go.ChangeAt Go.RowKit
set_option maxHeartbeats 16000000
set_option maxRecDepth 100000
set_option linter.unusedVariables false

theorem RdVs.at {w : World} {a : Option Addr} {n c : Nat} {xs : List Value} (h : RdVs w (.slice a n c) xs) {i : Nat} (hi : i < xs.length) : ∃ b o, a = some ⟨b, o, none⟩ ∧ w.cell? ⟨b, o + i, none⟩ = xs[i]? := by
 obtain ⟨a', c', e, -, -, h⟩ := h
 simp only [Value.slice.injEq] at e
 obtain ⟨rfl, -, rfl⟩ := e
 exact h i hi
/-- a register's two cells -/
theorem RwV.cells {w : World} {s : Bool} {ah an : Option Addr} {nh ch nn cn : Nat} {t : Ro} (h : RwV w (.agg #[.bool s, .slice ah nh ch, .slice an nn cn]) (some t)) {k : Nat} (hk : k < t.length) : nh = t.length ∧ nn = t.length ∧ ∃ bh oh bn on, ah = some ⟨bh, oh, none⟩ ∧ an = some ⟨bn, on, none⟩ ∧ w.cell? ⟨bh, oh + k, none⟩ = some (.bool (t.getD k none).isSome) ∧ w.cell? ⟨bn, on + k, none⟩ = some (.int .u32 ((t.getD k none).getD 0)) ∧ bh < w.heap.size ∧ bn < w.heap.size := by
 obtain ⟨a1, c1, a2, c2, e1, e2⟩ := h.form
 obtain ⟨vh', vn', e, h1, h2⟩ := h
 simp only [Value.agg.injEq, Array.mk.injEq, List.cons.injEq, and_true] at e
 obtain ⟨-, rfl, rfl⟩ := e
 simp only [Value.slice.injEq, Option.getD_some] at e1 e2
 obtain ⟨b1, o1, e3, f1⟩ := h1.at (i := k) (by simpa [hasV] using hk)
 obtain ⟨b2, o2, e4, f2⟩ := h2.at (i := k) (by simpa [numV] using hk)
 have f1 : w.cell? ⟨b1, o1 + k, none⟩ = some (.bool (t.getD k none).isSome) := by rw [f1]; simp [hasV, List.getD, hk]
 have f2 : w.cell? ⟨b2, o2 + k, none⟩ = some (.int .u32 ((t.getD k none).getD 0)) := by rw [f2]; simp [numV, List.getD, hk]
 exact ⟨e1.2.1, e2.2.1, b1, o1, b2, o2, e3, e4, f1, f2, World.block_lt_of_cell? _ _ f1, World.block_lt_of_cell? _ _ f2⟩
theorem cAt_nat (t : Ro) (k : Nat) : cAt t (k : Int) = t.getD k none := by
 unfold cAt
 by_cases h : k < t.length
 ·rw [if_pos ⟨by omega, by omega⟩]; rfl
 ·rw [if_neg (by omega)]; simp [List.getD, Nat.le_of_not_lt h]
theorem rknown_c (v vi : Value) (t : Ro) (i : In) (w0 w : World) (h : RwV w v (some t)) (hi : InV w0 vi i) (hl : t.length ≤ 1000) (hd : i.op = 2 ∨ i.op = 3 ∨ i.op = 4 → 0 ≤ i.d ∧ i.d < (t.length : Int)) :
  Calls Tryz.prog 14 #[v, vi] w fun e w' => ∃ v', e = .returned v' ∧ InV w0 v' (knwI t i) ∧ Below w.heap.size w w' := by
 have HRW := Lib.hid h
 have HI := Lib.hid hi
 obtain ⟨vh, vn, rfl, -, -⟩ := h
 obtain ⟨va, rfl, hva⟩ := hi
 obtain ⟨aa, ac, rfl, -⟩ := hva
 obtain ⟨a1, c1, a2, c2, rfl, rfl⟩ := HRW.out.form
 dsimp only [Option.getD_some, Option.isSome_some] at HRW ⊢
 obtain ⟨op, d, a, b, fn, obj, off, size, num, args, lg⟩ := i
 dsimp only at HI hd ⊢
 have HSAME : Hid (knwI t ⟨op, d, a, b, fn, obj, off, size, num, args, lg⟩ = ⟨op, d, a, b, fn, obj, off, size, num, args, lg⟩ → InV w0 (.agg #[.int .i64 op, .int .i64 d, .int .i64 a, .int .i64 b, .int .i64 fn, .int .i64 obj, .int .i64 off, .int .i64 size, .int .u32 num, .slice aa args.length ac, .bool lg]) (knwI t ⟨op, d, a, b, fn, obj, off, size, num, args, lg⟩)) := fun e => by
  rw [e]; exact HI.out
 by_cases hop : op = 2 ∨ op = 3 ∨ op = 4
 ·obtain ⟨hd0, hd1⟩ := hd hop
  obtain ⟨k, rfl⟩ : ∃ k : Nat, d = (k : Int) := ⟨d.toNat, by omega⟩
  have hk : k < t.length := by omega
  obtain ⟨-, -, bh, oh, bn, on, rfl, rfl, ch, cn, lh, ln⟩ := HRW.out.cells hk
  have hE3 : Ext w (((w.alloc (.cells #[.bool true, .slice (some ⟨bh, oh, none⟩) t.length c1, .slice (some ⟨bn, on, none⟩) t.length c2] 40)).alloc (.cells #[.int .i64 op, .int .i64 (k : Int), .int .i64 a, .int .i64 b, .int .i64 fn, .int .i64 obj, .int .i64 off, .int .i64 size, .int .u32 num, .slice aa args.length ac, .bool lg] 48)).alloc (.cells #[.int .i64 0, .int .i64 0, .int .i64 0, .int .i64 0, .int .i64 0, .int .i64 0, .int .i64 0, .int .i64 0, .int .u32 0, .slice none 0 0, .bool false] 48)) := Ext.below ((((Below.refl w.heap.size w).alloc (Nat.le_refl _) _).alloc (by simp) _).alloc (by simp; omega) _)
  replace ch := hE3 _ _ ch
  replace cn := hE3 _ _ cn
  clear hE3
  have g1 : decide (k < t.length) = true := decide_eq_true hk
  have g2 : decide ((k : Int) < (t.length : Int)) = true := decide_eq_true (by omega)
  have HK : Hid (knwI t ⟨op, (k : Int), a, b, fn, obj, off, size, num, args, lg⟩ = match t.getD k none with | some n => constI (k : Int) n | none => ⟨op, (k : Int), a, b, fn, obj, off, size, num, args, lg⟩) := by
   show _ = _
   unfold knwI
   rw [if_pos hop]
   show (match cAt t (k : Int) with | some n => constI (k : Int) n | none => _) = _
   rw [cAt_nat]
  have G : Hid (((op == 2) = true) ∨ ((op == 2) = false ∧ (op == 3) = true) ∨ ((op == 2) = false ∧ (op == 3) = false ∧ (op == 4) = true)) := by
   rcases hop with rfl | rfl | rfl
   ·exact .inl rfl
   ·exact .inr (.inl ⟨rfl, rfl⟩)
   ·exact .inr (.inr ⟨rfl, rfl, rfl⟩)
  clear hop hd hd0 hd1 HRW HI
  cases ho : t.getD k none with
  | none =>
   rw [ho] at ch HK
   have HIW := HSAME.out HK.out
   have HIV := Lib.hid HIW
   clear HIW
   simp only [Option.isSome_none] at ch
   clear ho HK cn HSAME
   rcases G.out with g3 | ⟨g3, g4⟩ | ⟨g3, g4, g5⟩
   all_goals
    clear G
    go_enter Tryz.func14, Tryz.ntmps14
    go_wp2_with fail
    refine bodyPost_ret (v := .agg #[.int .i64 op, .int .i64 (k : Int), .int .i64 a, .int .i64 b, .int .i64 fn, .int .i64 obj, .int .i64 off, .int .i64 size, .int .u32 num, .slice aa args.length ac, .bool lg]) (by simp [results, Tryz.results14, go_sem]) rfl ?_
    exact ⟨_, rfl, HIV.out, (((Below.refl w.heap.size w).alloc (Nat.le_refl _) _).alloc (by simp) _).alloc (by simp; omega) _⟩
  | some n =>
   rw [ho] at ch cn HK
   have HIV : Hid (InV w0 (.agg #[.int .i64 1, .int .i64 (k : Int), .int .i64 (-1), .int .i64 (-1), .int .i64 0, .int .i64 0, .int .i64 0, .int .i64 0, .int .u32 n, .slice none 0 0, .bool false]) (knwI t ⟨op, (k : Int), a, b, fn, obj, off, size, num, args, lg⟩)) := by
    show InV _ _ _
    rw [HK.out]
    exact ⟨.slice none 0 0, rfl, ⟨none, 0, rfl, Nat.le_refl _, by decide, fun i hi => absurd hi (Nat.not_lt_zero i)⟩⟩
   simp only [Option.isSome_some, Option.getD_some] at ch cn
   clear ho HK HSAME
   rcases G.out with g3 | ⟨g3, g4⟩ | ⟨g3, g4, g5⟩
   all_goals
    clear G
    go_enter Tryz.func14, Tryz.ntmps14
    go_upto_region 2 with (fail)
    go_wp2_with fail
    go_region
    go_wp2_with fail
    refine bodyPost_ret (v := .agg #[.int .i64 1, .int .i64 (k : Int), .int .i64 (-1), .int .i64 (-1), .int .i64 0, .int .i64 0, .int .i64 0, .int .i64 0, .int .u32 n, .slice none 0 0, .bool false]) (by simp [results, Tryz.results14, go_sem]) rfl ?_
    exact ⟨_, rfl, HIV.out, ((((Below.refl w.heap.size w).alloc (Nat.le_refl _) _).alloc (by simp) _).alloc (by simp; omega) _).drew⟩
 ·have HIV := Lib.hid (HSAME.out (by unfold knwI; exact if_neg hop))
  have g3 : (op == 2) = false := beq_eq_false_iff_ne.2 (by omega)
  have g4 : (op == 3) = false := beq_eq_false_iff_ne.2 (by omega)
  have g5 : (op == 4) = false := beq_eq_false_iff_ne.2 (by omega)
  clear hop hd HRW HI HSAME
  go_enter Tryz.func14, Tryz.ntmps14
  go_wp2_with fail
  refine bodyPost_ret (v := .agg #[.int .i64 op, .int .i64 d, .int .i64 a, .int .i64 b, .int .i64 fn, .int .i64 obj, .int .i64 off, .int .i64 size, .int .u32 num, .slice aa args.length ac, .bool lg]) (by simp [results, Tryz.results14, go_sem]) rfl ?_
  exact ⟨_, rfl, HIV.out, (((Below.refl w.heap.size w).alloc (Nat.le_refl _) _).alloc (by simp) _).alloc (by simp; omega) _⟩
theorem rended_c (v : Value) (t : Ro) (a : Option Addr) (m c : Nat) (fin ba bto els : Int) (w : World) (h : RwV w v (some t)) (hl : t.length ≤ 1000) (ha : fin = 2 → 0 ≤ ba ∧ ba < (t.length : Int)) :
  Calls Tryz.prog 15 #[v, .agg #[.slice a m c, .int .i64 fin, .int .i64 ba, .int .i64 bto, .int .i64 els]] w fun e w' => e = .returned (.agg #[.slice a m c, .int .i64 (knwE t ⟨[], fin, ba, bto, els⟩).fin, .int .i64 (knwE t ⟨[], fin, ba, bto, els⟩).a, .int .i64 (knwE t ⟨[], fin, ba, bto, els⟩).to, .int .i64 (knwE t ⟨[], fin, ba, bto, els⟩).els]) ∧ Below w.heap.size w w' := by
 have HRW := Lib.hid h
 obtain ⟨vh, vn, rfl, -, -⟩ := h
 obtain ⟨a1, c1, a2, c2, rfl, rfl⟩ := HRW.out.form
 dsimp only [Option.getD_some, Option.isSome_some] at HRW ⊢
 by_cases hf : fin = 2
 ·obtain ⟨hd0, hd1⟩ := ha hf
  obtain ⟨k, rfl⟩ : ∃ k : Nat, ba = (k : Int) := ⟨ba.toNat, by omega⟩
  have hk : k < t.length := by omega
  obtain ⟨-, -, bh, oh, bn, on, rfl, rfl, ch, cn, lh, ln⟩ := HRW.out.cells hk
  have hE3 : Ext w (((w.alloc (.cells #[.bool true, .slice (some ⟨bh, oh, none⟩) t.length c1, .slice (some ⟨bn, on, none⟩) t.length c2] 40)).alloc (.cells #[.slice a m c, .int .i64 fin, .int .i64 (k : Int), .int .i64 bto, .int .i64 els] 43)).alloc (.cells #[.slice none 0 0, .int .i64 0, .int .i64 0, .int .i64 0, .int .i64 0] 43)) := Ext.below ((((Below.refl w.heap.size w).alloc (Nat.le_refl _) _).alloc (by simp) _).alloc (by simp; omega) _)
  replace ch := hE3 _ _ ch
  replace cn := hE3 _ _ cn
  clear hE3
  have g1 : decide (k < t.length) = true := decide_eq_true hk
  have g2 : decide ((k : Int) < (t.length : Int)) = true := decide_eq_true (by omega)
  have g3 : (fin != 2) = false := by rw [hf]; rfl
  have g4 : (fin == 2) = true := beq_iff_eq.2 hf
  have HE0 : Hid (knwE t ⟨[], fin, (k : Int), bto, els⟩ = match t.getD k none with | some n => jmpB ⟨[], fin, (k : Int), bto, els⟩ n | none => ⟨[], fin, (k : Int), bto, els⟩) := by
   show _ = _
   unfold knwE
   rw [if_pos hf]
   show (match cAt t (k : Int) with | some n => jmpB _ n | none => _) = _
   rw [cAt_nat]
  clear hf ha hd0 hd1 HRW
  cases ho : t.getD k none with
  | none =>
   rw [ho] at ch HE0
   simp only [Option.isSome_none] at ch
   have HE : Hid (knwE t ⟨[], fin, (k : Int), bto, els⟩ = ⟨[], fin, (k : Int), bto, els⟩) := HE0.out
   clear ho HE0 cn
   go_enter Tryz.func15, Tryz.ntmps15
   go_wp2_with fail
   refine bodyPost_ret (v := .agg #[.slice a m c, .int .i64 fin, .int .i64 (k : Int), .int .i64 bto, .int .i64 els]) (by simp [results, Tryz.results15, go_sem]) rfl ?_
   rw [HE.out]
   exact ⟨rfl, (((Below.refl w.heap.size w).alloc (Nat.le_refl _) _).alloc (by simp) _).alloc (by simp; omega) _⟩
  | some n =>
   rw [ho] at ch cn HE0
   simp only [Option.isSome_some, Option.getD_some] at ch cn
   by_cases hn : n = 0
   ·have g5 : (n == 0) = true := beq_iff_eq.2 hn
    have HE : Hid (knwE t ⟨[], fin, (k : Int), bto, els⟩ = ⟨[], 1, -1, els, 0⟩) := by
     refine HE0.out.trans ?_
     show jmpB _ n = _
     unfold jmpB
     rw [if_pos hn]
    clear ho HE0 hn
    go_enter Tryz.func15, Tryz.ntmps15
    go_wp2_with fail
    refine bodyPost_ret (v := .agg #[.slice a m c, .int .i64 1, .int .i64 (-1), .int .i64 els, .int .i64 0]) (by simp [results, Tryz.results15, go_sem]) rfl ?_
    rw [HE.out]
    exact ⟨rfl, (((Below.refl w.heap.size w).alloc (Nat.le_refl _) _).alloc (by simp) _).alloc (by simp; omega) _⟩
   ·have g5 : (n == 0) = false := beq_eq_false_iff_ne.2 hn
    have HE : Hid (knwE t ⟨[], fin, (k : Int), bto, els⟩ = ⟨[], 1, -1, bto, 0⟩) := by
     refine HE0.out.trans ?_
     show jmpB _ n = _
     unfold jmpB
     rw [if_neg hn]
    clear ho HE0 hn
    go_enter Tryz.func15, Tryz.ntmps15
    go_wp2_with fail
    refine bodyPost_ret (v := .agg #[.slice a m c, .int .i64 1, .int .i64 (-1), .int .i64 bto, .int .i64 0]) (by simp [results, Tryz.results15, go_sem]) rfl ?_
    rw [HE.out]
    exact ⟨rfl, (((Below.refl w.heap.size w).alloc (Nat.le_refl _) _).alloc (by simp) _).alloc (by simp; omega) _⟩
 ·have g3 : (fin != 2) = true := by simpa using hf
  have g4 : (fin == 2) = false := beq_eq_false_iff_ne.2 hf
  have HE : Hid (knwE t ⟨[], fin, ba, bto, els⟩ = ⟨[], fin, ba, bto, els⟩) := by show _ = _; unfold knwE; exact if_neg hf
  clear hf ha HRW
  go_enter Tryz.func15, Tryz.ntmps15
  go_wp2_with fail
  refine bodyPost_ret (v := .agg #[.slice a m c, .int .i64 fin, .int .i64 ba, .int .i64 bto, .int .i64 els]) (by simp [results, Tryz.results15, go_sem]) rfl ?_
  rw [HE.out]
  exact ⟨rfl, (((Below.refl w.heap.size w).alloc (Nat.le_refl _) _).alloc (by simp) _).alloc (by simp; omega) _⟩
end Go.Proofs.YtkhfddodmjnecaaGreatDoor

set_option linter.all false
namespace Go.Proofs.YtkhfddodmjnecaaGreatDoor
set_option linter.unusedVariables false

theorem fewM_sz {m : Md} (h : fewM m = true) : SzM m := by
 unfold fewM at h
 simp only [Bool.and_eq_true, List.all_eq_true] at h
 refine ⟨fun p hp => ?_⟩
 have h2 := h.2.2.2 p hp
 unfold prF at h2
 simp only [Bool.and_eq_true, decide_eq_true_eq, List.all_eq_true] at h2
 refine ⟨by omega, fun b hb => ?_⟩
 have h3 := h2.2.2 b hb
 unfold blkF at h3
 simp only [Bool.and_eq_true, decide_eq_true_eq] at h3
 omega
theorem fewM_pr {m : Md} (h : fewM m = true) {p : Pr} (hp : p ∈ m.procs) : p.blks.length ≤ 40 ∧ p.objs.length ≤ 20 ∧ ∀ b ∈ p.blks, b.ins.length ≤ 60 ∧ ∀ i ∈ b.ins, insF i = true := by
 unfold fewM at h
 simp only [Bool.and_eq_true, List.all_eq_true] at h
 have h2 := h.2.2.2 p hp
 unfold prF at h2
 simp only [Bool.and_eq_true, decide_eq_true_eq, List.all_eq_true] at h2
 refine ⟨h2.1, h2.2.1, fun b hb => ?_⟩
 have h3 := h2.2.2 b hb
 unfold blkF at h3
 simp only [Bool.and_eq_true, decide_eq_true_eq, List.all_eq_true] at h3
 exact h3
theorem insF_args {i : In} (h : insF i = true) : i.args.length ≤ 12 := by
 unfold insF at h
 simp only [Bool.and_eq_true, decide_eq_true_eq] at h
 exact h.2.2
end Go.Proofs.YtkhfddodmjnecaaGreatDoor

set_option linter.all false
namespace Go.Proofs.YtkhfddodmjnecaaGreatDoor
set_option maxHeartbeats 4000000
set_option linter.unusedVariables false

structure FoldOk (p : Pr) (R : Nat) : Prop where
 regs : p.regs = (R : Int)
 le : R ≤ 40
 b0 : 0 < p.blks.length
 b1 : p.blks.length ≤ 40
 ord : 0 < (wkD p).ord.length
 ins : ∀ n, n < p.blks.length → InsC R (p.blks.getD n default).ins ∧ (∀ i ∈ (p.blks.getD n default).ins, UseC R i) ∧ (p.blks.getD n default).ins.length ≤ 60
 out : ∀ n, n < p.blks.length → ∀ q ∈ outsB (p.blks.getD n default), 0 ≤ q ∧ q < (p.blks.length : Int)
theorem foldI_def {m : Md} {p : Pr} {i : In} (h : okI m p i = true) (hd : defI i ≠ -1) : 0 ≤ defI i ∧ defI i < p.regs := by
 have h12 := ops12 h
 by_cases h9 : i.op = 9
 ·have e : defI i = i.d := by unfold defI; rw [if_pos (by omega)]
  rw [e] at hd ⊢
  have := regF_may (okI_call h h9).2.2.2.1
  omega
 ·by_cases hx : i.op = 6 ∨ i.op = 10 ∨ i.op = 12
  ·exact absurd (show defI i = -1 by unfold defI; rw [if_neg (by omega)]) hd
  ·have e : defI i = i.d := by unfold defI; rw [if_pos (by omega)]
   rw [e]
   exact okI_d h (by omega)
theorem foldI_use {m : Md} {p : Pr} {i : In} {R : Nat} (h : okI m p i = true) (hR : p.regs = (R : Int)) : UseC R i := by
 refine ⟨fun ho => ?_, fun ho => ?_⟩
 ·have h2 := (okI_regs h (by omega)).2.1
  have e : readsA i.op = true := by unfold readsA; simp; omega
  rw [e] at h2
  rw [← hR]; exact regF_in h2
 ·have h2 := (okI_regs h (by omega)).2.2.1
  have e : readsB i.op = true := by unfold readsB; simp; omega
  rw [e] at h2
  rw [← hR]; exact regF_in h2
theorem fold_ok {m : Md} {p : Pr} (hf : fewM m = true) (hm : p ∈ m.procs) (hk : okP m p = true) (hr : p.regs ≤ 40) (hp : PrOk p) : FoldOk p p.regs.toNat := by
 have hpr := fewM_pr hf hm
 unfold okP okHead at hk
 simp only [Bool.and_eq_true, decide_eq_true_eq, List.all_eq_true] at hk
 obtain ⟨⟨h1, h2, h3, h4, h5, h6, h7, -, -⟩, hb⟩ := hk
 have hgb : ∀ n, n < p.blks.length → p.blks.getD n default ∈ p.blks := fun n hn => by simp [List.getD, hn]
 have hR : p.regs = (p.regs.toNat : Int) := (Int.toNat_of_nonneg (by omega)).symm
 refine ⟨hR, by omega, by omega, hpr.1, List.length_pos_of_mem (ord_zero p (by omega)), fun n hn => ?_, fun n hn q hq => ?_⟩
 ·have h := hb _ (hgb n hn)
  unfold okB at h
  simp only [Bool.and_eq_true, List.all_eq_true] at h
  refine ⟨⟨fun i hi => ((hp.blks _ (hgb n hn)).ins i hi).num, fun i hi hd => ?_⟩, fun i hi => foldI_use (h.1 i hi) hR, (hpr.2.2 _ (hgb n hn)).1⟩
  rw [← hR]
  exact foldI_def (h.1 i hi) hd
 ·have h := hb _ (hgb n hn)
  unfold okB at h
  simp only [Bool.and_eq_true, List.all_eq_true] at h
  have he := h.2
  unfold endF blockF at he
  unfold outsB at hq
  generalize p.blks.getD n default = b at *
  by_cases f1 : b.fin = 1
  ·rw [if_pos f1] at he
   rw [if_pos (.inl f1), List.mem_singleton] at hq
   simp only [Bool.and_eq_true, decide_eq_true_eq] at he
   rw [hq]; exact he.1
  ·rw [if_neg f1] at he
   by_cases f2 : b.fin = 2
   ·rw [if_pos f2] at he
    simp only [Bool.and_eq_true, decide_eq_true_eq] at he
    split at hq
    ·rw [List.mem_singleton] at hq; rw [hq]; exact he.1
    ·rcases List.mem_cons.1 hq with rfl | hq
     ·exact he.1
     ·rw [List.mem_singleton] at hq; rw [hq]; exact he.2.1
   ·rw [if_neg (by omega), if_neg f2] at hq
    cases hq
end Go.Proofs.YtkhfddodmjnecaaGreatDoor

set_option linter.all false
namespace Go.Proofs.YtkhfddodmjnecaaGreatDoor
open Go.ChangeShapes Go.WideShapes Go.ChangeAt Go.RowKit Go.Maps
set_option maxHeartbeats 4000000
set_option maxRecDepth 100000
set_option linter.unusedVariables false

end Go.Proofs.YtkhfddodmjnecaaGreatDoor
