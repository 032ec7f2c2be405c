/-
 What stays of a block (law17.stays, kept): the walks.; fold's page example answers yes.; Is a module right, and not too large: the walk of the statements' Right.
-/
import Derived.Test.YtkhfddodmjnecaaZFoldKeeps46
import Derived.Test.YtkhfddodmjnecaaZFoldKeeps49
import Derived.Test.YtkhfddodmjnecaaZFoldKeeps48
import Derived.Test.YtkhfddodmjnecaaZFoldKeeps23
import Derived.Test.YtkhfddodmjnecaaZFoldKeeps12
import Derived.Test.YtkhfddodmjnecaaZFoldKeeps16

set_option linter.all false
namespace Go.Proofs.Ytkhfddodmjnecaa
open Go.ChangeShapes Go.WideShapes Go.ChangeAt Go.RowKit Go.Maps
set_option maxHeartbeats 4000000
set_option maxRecDepth 100000
set_option linter.unusedVariables false

theorem stays_v (i : In) (va : Value) (w : World) :
  Calls Try.prog 87 #[aggI i va] w fun e w' => e = .returned (.bool (staysI i)) ∧ Below w.heap.size w w' := by
 unfold aggI
 rcases boolTF (i.op == 6) with g6 | g6
 ·rcases boolTF (i.op == 9) with g9 | g9
  ·rcases boolTF (i.op == 10) with g10 | g10
   ·rcases boolTF (i.op == 11) with g11 | g11
    ·rcases boolTF (i.op == 12) with g12 | g12
     ·go_enter Try.func87, Try.ntmps87
      go_wp2_with fail
      go_ret
      exact ⟨by simp [staysI, *], below_alloc _ _⟩
     ·go_enter Try.func87, Try.ntmps87
      go_wp2_with fail
      go_ret
      exact ⟨by simp [staysI, *], below_alloc _ _⟩
    ·go_enter Try.func87, Try.ntmps87
     go_wp2_with fail
     go_ret
     exact ⟨by simp [staysI, *], below_alloc _ _⟩
   ·go_enter Try.func87, Try.ntmps87
    go_wp2_with fail
    go_ret
    exact ⟨by simp [staysI, *], below_alloc _ _⟩
  ·go_enter Try.func87, Try.ntmps87
   go_wp2_with fail
   go_ret
   exact ⟨by simp [staysI, *], below_alloc _ _⟩
 ·go_enter Try.func87, Try.ntmps87
  go_wp2_with fail
  go_ret
  exact ⟨by simp [staysI, *], below_alloc _ _⟩
theorem keptL_snoc (l : List In) (i : In) : keptL (l ++ [i]) = keptL l ++ (if staysI i = true then [stripI i] else []) := by
 unfold keptL
 rw [List.filter_append, List.map_append]
 cases h : staysI i <;> simp [h]
theorem keptL_len (l : List In) : (keptL l).length ≤ l.length := by unfold keptL; rw [List.length_map]; exact List.length_filter_le _ _
def nilA (x : In) : In × Value := (x, .slice none 0 0)
/-- in the loop -/
structure KpS (w : World) (vb0 : Obj) (vK : Value) (l : List In) (wr : World) : Prop where
 b1 : wr.heap[w.heap.size]? = some vb0
 own : wr.ownsRow (w.heap.size + 1) 39 11 vK l.length ((l.map nilA).flatMap inCells)
 bl : Below w.heap.size w wr
theorem KpS.below {w : World} {vb0 : Obj} {vK : Value} {l : List In} {wr w2 : World} (h : KpS w vb0 vK l wr) (hb : Below wr.heap.size wr w2) : KpS w vb0 vK l w2 :=
 ⟨(hb.block _ (Array.getElem?_eq_some_iff.1 h.b1).1).trans h.b1, own_below h.own hb, h.bl.trans (hb.mono h.bl.size)⟩
theorem KpS.app {w : World} {vb0 : Obj} {vK v' : Value} {l : List In} {x : In} {wr w2 : World} (h : KpS w vb0 vK l wr) (ho : w2.ownsRow (w.heap.size + 1) 39 11 v' (l.length + 1) ((l.map nilA).flatMap inCells ++ inCells (nilA x))) (hg : wr.grownBy w2 vK.ownBlock) : KpS w vb0 v' (l ++ [x]) w2 := by
 have hne : ∀ g, vK.ownBlock = some g → w.heap.size + 1 ≤ g := fun g e => (World.ownsRow.lt h.own g e).1
 refine ⟨(hg.block _ (Array.getElem?_eq_some_iff.1 h.b1).1 fun e => by have := hne _ e.symm; omega).trans h.b1, by simpa using ho, h.bl.grown hg h.bl.size fun k hk => by have := hne k hk; omega⟩
theorem KpS.rd {w : World} {vb0 : Obj} {vK : Value} {l : List In} {wr : World} (h : KpS w vb0 vK l wr) (ha : ∀ x ∈ l, x.args = []) : RdIns wr vK l := by
 have h1 := OwnIn.rd (w := wr) (B := w.heap.size + 1) (v := vK) (L := l.map nilA) ⟨by rw [List.length_map]; exact h.own, fun y hy => ?_⟩
 ·rw [List.map_map, show Prod.fst ∘ nilA = id from rfl, List.map_id] at h1
  exact h1
 ·obtain ⟨x, hx, rfl⟩ := List.mem_map.1 hy
  show RdI wr (.slice none 0 0) x.args
  rw [ha x hx]
  exact ⟨none, 0, rfl, Nat.le_refl _, by decide, fun i hi => absurd hi (Nat.not_lt_zero i)⟩
theorem kept_c (b : Bk) (vb : Value) (w : World) (hb : BkV w vb b) (hl : b.ins.length ≤ 1000) :
  Calls Try.prog 41 #[vb] w fun e w' => ∃ vK, e = .returned vK ∧ RdIns w' vK (keptL b.ins) ∧ Below w.heap.size w w' := by
 obtain ⟨vi, rfl, hvi⟩ := hb
 obtain ⟨ai, ci, rfl, i1, i2, i3⟩ := hvi
 have HIN := Lib.hid (RdIns.at (w := w) (a := ai) (c := ci) (l := b.ins) ⟨ai, ci, rfl, i1, i2, i3⟩).2
 unfold maxLen at i2
 clear i3
 obtain ⟨B, fin, ba, bto, bel⟩ := b
 dsimp only at *
 obtain ⟨W0, hW0⟩ : ∃ W0, W0 = w.alloc (.cells #[.slice ai B.length ci, .int .i64 fin, .int .i64 ba, .int .i64 bto, .int .i64 bel] 35) := ⟨_, rfl⟩
 have S0 : Hid (KpS w (.cells #[.slice ai B.length ci, .int .i64 fin, .int .i64 ba, .int .i64 bto, .int .i64 bel] 35) (.slice none 0 0) (keptL (B.take 0)) W0) := ⟨heap_of_alloc w _ _ hW0, own_nil _ _ _ _, by rw [hW0]; exact below_alloc w _⟩
 have HW0 := Lib.hid hW0.symm
 clear hW0
 go_enter Try.func41, Try.ntmps41
 go_wp2_with fail
 rw [HW0.out]
 clear HW0
 go_loopw [3, 4] (fun vo i wr => ∃ (k : Nat), k ≤ B.length ∧ i = .int .i64 (k : Int) ∧ Hid (KpS w (.cells #[.slice ai B.length ci, .int .i64 fin, .int .i64 ba, .int .i64 bto, .int .i64 bel] 35) vo (keptL (B.take k)) wr)) (fun _ i _ => B.length - (intOf i).toNat)
 case atStart => exact ⟨0, Nat.zero_le _, rfl, S0⟩
 case round =>
  clear S0
  obtain ⟨wq, rfl⟩ : ∃ wq, wq = wr := ⟨wr, rfl⟩
  obtain ⟨k, hk, rfl, S⟩ := hrel
  obtain ⟨av, cv, rfl⟩ := ow_form S.out.own
  obtain ⟨y0, y1, y2, y3, y4, ly⟩ := cl5 S.out.b1
  have hkl : (keptL (B.take k)).length ≤ 1000 := by
   have h1 := keptL_len (B.take k)
   have h2 := List.length_take_le k B
   omega
  have HKL := Lib.hid hkl
  clear hkl
  by_cases hlt : k < B.length
  ·have g1 : decide (k < B.length) = true := decide_eq_true hlt
   have g2 : decide ((k : Int) < (B.length : Int)) = true := decide_eq_true (by omega)
   obtain ⟨ib, io, va, rfl, lib, hva, c0, c1, c2, c3, c4, c5, c6, c7, c8, c9, c10⟩ := HIN.out k hlt
   have lift : ∀ {a : Addr} {u : Value}, w.cell? a = some u → wq.cell? a = some u := fun h => (Ext.below S.out.bl) _ _ h
   have c0 := lift c0
   have c1 := lift c1
   have c2 := lift c2
   have c3 := lift c3
   have c4 := lift c4
   have c5 := lift c5
   have c6 := lift c6
   have c7 := lift c7
   have c8 := lift c8
   have c9 := lift c9
   have c10 := lift c10
   clear lift
   have lib : ib < wq.heap.size := World.block_lt_of_cell? _ _ c0
   have HTK : Hid (keptL (B.take (k + 1)) = keptL (B.take k) ++ (if staysI (B.getD k default) = true then [stripI (B.getD k default)] else [])) := by
    have e : B.take (k + 1) = B.take k ++ [B.getD k default] := by
     rw [List.take_succ, List.getElem?_eq_getElem hlt]; simp [List.getD, hlt]
    show _ = _
    rw [e, keptL_snoc]
   obtain ⟨aa, ac, rfl, -⟩ := hva
   generalize keptL (B.take k) = V at *
   generalize B.getD k default = I at *
   have ES := Lib.hid (stays_v I (.slice aa I.args.length ac) (wq.alloc (.cells #[.int .i64 I.op, .int .i64 I.d, .int .i64 I.a, .int .i64 I.b, .int .i64 I.fn, .int .i64 I.obj, .int .i64 I.off, .int .i64 I.size, .int .u32 I.num, .slice aa I.args.length ac, .bool I.log] 39)))
   unfold aggI at ES
   have S5 := Lib.hid (S.out.below (below_alloc wq (.cells #[.int .i64 I.op, .int .i64 I.d, .int .i64 I.a, .int .i64 I.b, .int .i64 I.fn, .int .i64 I.obj, .int .i64 I.off, .int .i64 I.size, .int .u32 I.num, .slice aa I.args.length ac, .bool I.log] 39)))
   have H5 := Lib.hid (heap_alloc_new wq (.cells #[.int .i64 I.op, .int .i64 I.d, .int .i64 I.a, .int .i64 I.b, .int .i64 I.fn, .int .i64 I.obj, .int .i64 I.off, .int .i64 I.size, .int .u32 I.num, .slice aa I.args.length ac, .bool I.log] 39))
   go_wp2_with fail
   refine ES.out.mono ?_
   rintro e w6 ⟨rfl, hb6⟩
   have S6 := Lib.hid (S5.out.below hb6)
   have H6 := Lib.hid ((hb6.block _ (by simp)).trans H5.out)
   clear hb6 ES S5 H5 S c0 c1 c2 c3 c4 c5 c6 c7 c8 c9 c10 lib y0 y1 y2 y3 y4 ly
   obtain ⟨x0, x1, x2, x3, x4, x5, x6, x7, x8, x9, x10, lx⟩ := cl11 H6.out
   have hkl := HKL.out
   cases hs : staysI I
   ·rw [hs, if_neg (by decide), List.append_nil] at HTK
    clear hs
    go_wp2_with fail
    go_roundw
    case rel => exact ⟨k + 1, hlt, by go_num, by rw [HTK.out]; exact S6⟩
    case measure => simp [intOf]; omega
   ·rw [hs, if_pos rfl] at HTK
    clear hs
    have S7 := Lib.hid (S6.out.below (below_alloc w6 (.cells #[.int .i64 I.op, .int .i64 I.d, .int .i64 0, .int .i64 0, .int .i64 0, .int .i64 I.obj, .int .i64 I.off, .int .i64 I.size, .int .u32 0, .slice none 0 0, .bool I.log] 39)))
    have HCX : Hid (∀ jj u, (inCells (nilA (stripI I)))[jj]? = some u → (w6.alloc (.cells #[.int .i64 I.op, .int .i64 I.d, .int .i64 0, .int .i64 0, .int .i64 0, .int .i64 I.obj, .int .i64 I.off, .int .i64 I.size, .int .u32 0, .slice none 0 0, .bool I.log] 39)).cell? ⟨w6.heap.size, jj, none⟩ = some u) := cell_newX _ (inCells (nilA (stripI I))) 39 _ (by simp)
    generalize hwq : wq.heap.size = bq at *
    clear hwq
    go_wp2_with (at_builtin; go_loud (refine appG 33 39 info_in Try.underlying33 rfl (by decide) (by decide) (inCells (nilA (stripI I))) rfl (fun u hu => by simp only [inCells, nilA, stripI, List.mem_cons, List.not_mem_nil, or_false] at hu; rcases hu with rfl | rfl | rfl | rfl | rfl | rfl | rfl | rfl | rfl | rfl | rfl <;> rfl) S7.out.own rfl rfl rfl rfl HCX.out (by omega) (by have := S7.out.bl.size; have := (Array.getElem?_eq_some_iff.1 S7.out.b1).1; simp at *; omega) ?_); intro v8 w8 O8 G8 D8)
    have S8 := Lib.hid (S7.out.app O8 G8)
    obtain ⟨a8, c8, rfl⟩ := ow_form O8
    clear O8 G8 D8 S7 HCX S6
    go_wp2_with fail
    go_roundw
    case rel => exact ⟨k + 1, hlt, by go_num, by rw [HTK.out]; exact S8⟩
    case measure => simp [intOf]; omega
  ·obtain rfl : k = B.length := by omega
   have g1 : decide (B.length < B.length) = false := decide_eq_false (Nat.lt_irrefl _)
   have g2 : decide ((B.length : Int) < (B.length : Int)) = false := decide_eq_false (by omega)
   rw [List.take_length] at S
   have HE : Hid (RdIns wq (.slice av (keptL (B.take B.length)).length cv) (keptL B)) := by
    rw [List.take_length]
    refine S.out.rd fun x hx => ?_
    unfold keptL at hx
    obtain ⟨y, -, rfl⟩ := List.mem_map.1 hx
    rfl
   go_wp2_with fail
   go_ret
   exact ⟨_, rfl, HE.out, S.out.bl⟩
end Go.Proofs.Ytkhfddodmjnecaa

set_option linter.all false
namespace Go.Proofs.Ytkhfddodmjnecaa
open Go.ChangeShapes Go.WideShapes Go.ChangeAt Go.RowKit Go.Maps
set_option maxHeartbeats 4000000
set_option maxRecDepth 100000
set_option linter.unusedVariables false

def kI0 : In := ⟨1, 1, -1, -1, 0, 0, 0, 0, 2, [], false⟩
def kI1 : In := ⟨1, 2, -1, -1, 0, 0, 0, 0, 3, [], false⟩
def kI2 : In := ⟨3, 3, 1, 2, 1, 0, 0, 0, 0, [], false⟩
def kI3 : In := ⟨10, -1, 3, -1, 0, 0, 0, 0, 0, [], false⟩
def kP : Pr := ⟨false, 0, 4, [], [⟨[kI0, kI1, kI2, kI3], 3, 0, 0, 0⟩]⟩
theorem kP_run {X : Tb} (h : RunC kP (wkD kP).ord.reverse (X0C kP.blks.length 4) X) : X = X0C 1 4 := by
 induction h with
 | start => rfl
 | step X n t _ hn ht ih =>
  have h0 : n = 0 := by
   have := wkD_ord kP _ (List.mem_reverse.1 hn)
   have hl : kP.blks.length = 1 := rfl
   omega
  subst h0
  rw [ih]; rfl
theorem kP_known : (knwP kP (atB 4 (X0C 1 4))).blks = [⟨[kI0, kI1, constI 3 5, kI3], 3, 0, 0, 0⟩] := by rfl
theorem kP_ins : ∀ n, n < kP.blks.length → InsC 4 (kP.blks.getD n default).ins ∧ (kP.blks.getD n default).ins.length ≤ 100000 := fun n hn => by
 obtain rfl : n = 0 := by have : n < 1 := hn; omega
 refine ⟨⟨fun i hi => ?_, fun i hi => ?_⟩, by decide⟩
 all_goals
  have h : i = kI0 ∨ i = kI1 ∨ i = kI2 ∨ i = kI3 := by simpa [kP, List.getD] using hi
  rcases h with rfl | rfl | rfl | rfl <;> decide
theorem kP_out : ∀ n, n < kP.blks.length → ∀ q ∈ outsB (kP.blks.getD n default), 0 ≤ q ∧ q < (kP.blks.length : Int) := fun n hn q hq => by
 obtain rfl : n = 0 := by have : n < 1 := hn; omega
 have : q ∈ ([] : List Int) := hq
 cases this
def kIns : Obj := .cells #[.int .i64 1, .int .i64 1, .int .i64 (-1), .int .i64 (-1), .int .i64 0, .int .i64 0, .int .i64 0, .int .i64 0, .int .u32 2, .slice none 0 0, .bool false, .int .i64 1, .int .i64 2, .int .i64 (-1), .int .i64 (-1), .int .i64 0, .int .i64 0, .int .i64 0, .int .i64 0, .int .u32 3, .slice none 0 0, .bool false, .int .i64 3, .int .i64 3, .int .i64 1, .int .i64 2, .int .i64 1, .int .i64 0, .int .i64 0, .int .i64 0, .int .u32 0, .slice none 0 0, .bool false, .int .i64 10, .int .i64 (-1), .int .i64 3, .int .i64 (-1), .int .i64 0, .int .i64 0, .int .i64 0, .int .i64 0, .int .u32 0, .slice none 0 0, .bool false] 39
def kBks (w : World) : Obj := .cells #[.slice (some ⟨w.heap.size, 0, none⟩) 4 4, .int .i64 3, .int .i64 0, .int .i64 0, .int .i64 0] 35
theorem awake17_c (w : World) : Calls Try.prog 36 #[] w fun e w' => e = .returned (.bool true) ∧ Below w.heap.size w w' := by
 obtain ⟨W1, hW1⟩ : ∃ W1, W1 = (w.alloc kIns).alloc (kBks w) := ⟨_, rfl⟩
 have hW1' : W1 = allocs w [kIns, kBks w] := hW1
 have B1 : Hid (Below w.heap.size w W1) := by rw [hW1']; exact allocs_below _ _
 have H0 : W1.heap[w.heap.size]? = some kIns := by rw [hW1']; exact allocs_heap _ w 0 (by simp)
 have H1 : W1.heap[w.heap.size + 1]? = some (kBks w) := by rw [hW1']; exact allocs_heap _ w 1 (by simp)
 unfold kIns kBks at hW1
 unfold kIns at H0
 unfold kBks at H1
 have k0 : ∀ j u, (#[Value.int .i64 1, .int .i64 1, .int .i64 (-1), .int .i64 (-1), .int .i64 0, .int .i64 0, .int .i64 0, .int .i64 0, .int .u32 2, .slice none 0 0, .bool false, .int .i64 1, .int .i64 2, .int .i64 (-1), .int .i64 (-1), .int .i64 0, .int .i64 0, .int .i64 0, .int .i64 0, .int .u32 3, .slice none 0 0, .bool false, .int .i64 3, .int .i64 3, .int .i64 1, .int .i64 2, .int .i64 1, .int .i64 0, .int .i64 0, .int .i64 0, .int .u32 0, .slice none 0 0, .bool false, .int .i64 10, .int .i64 (-1), .int .i64 3, .int .i64 (-1), .int .i64 0, .int .i64 0, .int .i64 0, .int .i64 0, .int .u32 0, .slice none 0 0, .bool false])[j]? = some u → W1.cell? ⟨w.heap.size, j, none⟩ = some u := fun j u h => (cell_of_heap H0 j).trans h
 have k1 : ∀ j u, (#[Value.slice (some ⟨w.heap.size, 0, none⟩) 4 4, .int .i64 3, .int .i64 0, .int .i64 0, .int .i64 0])[j]? = some u → W1.cell? ⟨w.heap.size + 1, j, none⟩ = some u := fun j u h => (cell_of_heap H1 j).trans h
 have hnil : ∀ W : World, RdI W (.slice none 0 0) [] := fun W => ⟨none, 0, rfl, Nat.le_refl _, Nat.zero_le _, fun i hi => absurd hi (Nat.not_lt_zero i)⟩
 have hins : RdIns W1 (.slice (some ⟨w.heap.size, 0, none⟩) 4 4) [kI0, kI1, kI2, kI3] := by
  refine ⟨_, _, rfl, Nat.le_refl _, by unfold maxLen; omega, fun i hi => ⟨_, _, rfl, ?_⟩⟩
  have h3 : i = 0 ∨ i = 1 ∨ i = 2 ∨ i = 3 := by simp at hi; omega
  rcases h3 with rfl | rfl | rfl | rfl
  ·exact ⟨k0 0 _ rfl, k0 1 _ rfl, k0 2 _ rfl, k0 3 _ rfl, k0 4 _ rfl, k0 5 _ rfl, k0 6 _ rfl, k0 7 _ rfl, k0 8 _ rfl, ⟨_, k0 9 _ rfl, hnil _⟩, k0 10 _ rfl⟩
  ·exact ⟨k0 11 _ rfl, k0 12 _ rfl, k0 13 _ rfl, k0 14 _ rfl, k0 15 _ rfl, k0 16 _ rfl, k0 17 _ rfl, k0 18 _ rfl, k0 19 _ rfl, ⟨_, k0 20 _ rfl, hnil _⟩, k0 21 _ rfl⟩
  ·exact ⟨k0 22 _ rfl, k0 23 _ rfl, k0 24 _ rfl, k0 25 _ rfl, k0 26 _ rfl, k0 27 _ rfl, k0 28 _ rfl, k0 29 _ rfl, k0 30 _ rfl, ⟨_, k0 31 _ rfl, hnil _⟩, k0 32 _ rfl⟩
  ·exact ⟨k0 33 _ rfl, k0 34 _ rfl, k0 35 _ rfl, k0 36 _ rfl, k0 37 _ rfl, k0 38 _ rfl, k0 39 _ rfl, k0 40 _ rfl, k0 41 _ rfl, ⟨_, k0 42 _ rfl, hnil _⟩, k0 43 _ rfl⟩
 have hbks : RdBks W1 (.slice (some ⟨w.heap.size + 1, 0, none⟩) 1 1) kP.blks := by
  refine ⟨_, _, rfl, Nat.le_refl _, by unfold maxLen; omega, fun i hi => ⟨_, _, rfl, ?_⟩⟩
  obtain rfl : i = 0 := by simp [kP] at hi; omega
  exact ⟨⟨_, k1 0 _ rfl, hins⟩, k1 1 _ rfl, k1 2 _ rfl, k1 3 _ rfl, k1 4 _ rfl⟩
 have hobj : RdSls W1 (.slice none 0 0) [] := ⟨none, 0, rfl, Nat.le_refl _, Nat.zero_le _, fun i hi => absurd hi (Nat.not_lt_zero i)⟩
 have HK := Lib.hid (known_c kP ⟨#[]⟩ (.slice none 0 0) (.slice (some ⟨w.heap.size + 1, 0, none⟩) 1 1) W1 4 ⟨⟨#[]⟩, _, _, rfl, hobj, hbks⟩ rfl (by decide) (by decide) (by decide) (List.length_pos_of_mem (ord_zero kP (by decide))) kP_ins kP_out)
 clear hbks hins hobj hnil k0 k1 H0 H1 hW1'
 go_enter Try.func36, Try.ntmps36
 go_wp2_with fail
 rw [← hW1]
 clear hW1
 refine HK.out.mono ?_
 clear HK
 rintro e w2 ⟨X, vb, rfl, -, hrun, -, hb, hbl⟩
 rw [kP_run hrun, kP_known] at hb
 clear hrun
 have BB := Lib.hid (B1.out.trans (hbl.mono B1.out.size))
 clear hbl B1
 obtain ⟨a1, q1, hq1, -, -, h4⟩ := hb
 obtain ⟨bb, ob, rfl, ⟨⟨va, y0, hva⟩, -, -, -, -⟩⟩ := h4 0 (by decide)
 have hq1 : vb = .slice (some ⟨bb, ob, none⟩) 1 q1 := hq1
 subst hq1
 have hva : RdIns w2 va [kI0, kI1, constI 3 5, kI3] := hva
 obtain ⟨ai, ci, hai, -, -, h5⟩ := hva
 obtain ⟨bi, oi, rfl, hc⟩ := h5 2 (by decide)
 have hai : va = .slice (some ⟨bi, oi, none⟩) 4 ci := hai
 subst hai
 have y0 : w2.cell? ⟨bb, ob, none⟩ = some (.slice (some ⟨bi, oi, none⟩) 4 ci) := y0
 have y1 : w2.cell? ⟨bi, oi + 22, none⟩ = some (.int .i64 1) := hc.op
 have y2 : w2.cell? ⟨bi, oi + 30, none⟩ = some (.int .u32 5) := hc.num
 clear h4 h5 hc
 have lb := World.block_lt_of_cell? _ _ y0
 have li := World.block_lt_of_cell? _ _ y1
 rename_i y9
 clear y9
 go_wp2_with fail
 go_ret
 exact ⟨rfl, BB.out.alloc BB.out.size _⟩
end Go.Proofs.Ytkhfddodmjnecaa

set_option linter.all false
namespace Go.Proofs.Ytkhfddodmjnecaa
open Go.ChangeShapes Go.WideShapes Go.ChangeAt Go.RowKit
set_option maxHeartbeats 4000000
set_option linter.unusedVariables false
set_option maxRecDepth 100000

def rightB (m : Md) (n : Int) : Bool := fewM m && (decide (0 ≤ n) && (decide (n < (m.procs.length : Int)) && (decide ((m.procs.getD n.toNat default).regs ≤ 40) && okM m)))
theorem rightM_c (m : Md) (v : Value) (n : Int) (w : World) (hv : MdV w v m) :
  Calls Try.prog 12 #[v, .int .i64 n] w fun e w' => e = .returned (.bool (rightB m n)) ∧ Below w.heap.size w w' := by
 have HF : Hid (∀ w', Ext w w' → Calls Try.prog 42 #[v] w' fun e w'' => e = .returned (.bool (fewM m)) ∧ Below w'.heap.size w' w'') := fun w' he => few_c m v w' (hv.ext he)
 have HV := Lib.hid hv
 obtain ⟨vg, vd, vp, rfl, hvg, hvd, hvp⟩ := hv
 have hvp' := hvp
 obtain ⟨ap, cp, rfl, hp1, hp2, -⟩ := hvp'
 unfold maxLen at hp2
 have HPS := Lib.hid (RdPrs.at6 hvp).2
 clear hvg hvd hvp
 obtain ⟨W0, hW0⟩ : ∃ W0, W0 = w.alloc (.cells #[vg, vd, .slice ap m.procs.length cp, .int .i64 m.main] 26) := ⟨_, rfl⟩
 have B0 : Hid (Below w.heap.size w W0) := by rw [hW0]; exact below_alloc w _
 have H0 := Lib.hid (heap_of_alloc w _ _ hW0)
 have HW0 := Lib.hid hW0
 clear hW0
 go_enter Try.func12, Try.ntmps12
 go_wp2_with fail
 rw [← HW0.out]
 refine (HF.out W0 (Ext.below B0.out)).mono ?_
 rintro e w1 ⟨rfl, hb1⟩
 have H0 := Lib.hid ((hb1.block w.heap.size (Array.getElem?_eq_some_iff.1 H0.out).1).trans H0.out)
 have BB := Lib.hid (B0.out.trans (hb1.mono B0.out.size))
 clear hb1 HF HW0 B0
 obtain ⟨y0, y1, y2, y3, l0⟩ := cl4 H0.out
 cases hfw : fewM m
 ·have hR : Hid (rightB m n = false) := by show _ = _; unfold rightB; rw [hfw]; rfl
  clear hfw
  go_wp2_with fail
  go_ret
  exact ⟨ret_b hR.out.symm, BB.out⟩
 ·by_cases h0 : 0 ≤ n
  ·obtain ⟨k, rfl⟩ := Int.eq_ofNat_of_zero_le h0
   have g0 : decide (0 ≤ (k : Int)) = true := decide_eq_true (by omega)
   by_cases h1 : k < m.procs.length
   ·have g1 : decide ((k : Int) < (m.procs.length : Int)) = true := decide_eq_true (by omega)
    have g2 : decide (k < m.procs.length) = true := decide_eq_true h1
    obtain ⟨bp, op, tnm, tvo, tvb, hap, hto, htb, t0, t1, t2, t3, t4, t5⟩ := HPS.out k h1
    subst hap
    have hE : Ext w w1 := Ext.below BB.out
    replace t3 := hE _ _ t3
    have lbp : bp < w1.heap.size := World.block_lt_of_cell? w1 _ t3
    clear hto htb t0 t1 t2 t4 t5 hE
    have HRG : Hid (rightB m (k : Int) = (decide ((m.procs.getD k default).regs ≤ 40) && okM m)) := by
     show _ = _
     unfold rightB
     rw [hfw, g0, g1, Int.toNat_natCast]; rfl
    have HSZ := Lib.hid (fewM_sz hfw)
    clear hfw HPS
    generalize (m.procs.getD k default).regs = rg at *
    by_cases h2 : rg ≤ 40
    ·have g3 : decide (rg ≤ 40) = true := decide_eq_true h2
     go_wp2_with fail
     refine (check_c m _ w1 (HV.out.ext (Ext.below BB.out)) HSZ.out).mono ?_
     rintro e w2 ⟨rfl, hb2⟩
     have BB := Lib.hid (BB.out.trans (hb2.mono BB.out.size))
     clear hb2
     cases hok : okM m
     ·have hR : Hid (rightB m (k : Int) = false) := by show _ = _; rw [HRG.out, g3, hok]; rfl
      have hk : okE m = 3 := by unfold okE; rw [hok]; rfl
      rw [hk]
      clear hok hk
      go_wp2_with fail
      go_ret
      exact ⟨ret_b hR.out.symm, BB.out⟩
     ·have hR : Hid (rightB m (k : Int) = true) := by show _ = _; rw [HRG.out, g3, hok]; rfl
      have hk : okE m = 0 := by unfold okE; rw [hok]; rfl
      rw [hk]
      clear hok hk
      go_wp2_with fail
      go_ret
      exact ⟨ret_b hR.out.symm, BB.out⟩
    ·have g3 : decide (rg ≤ 40) = false := decide_eq_false h2
     have hR : Hid (rightB m (k : Int) = false) := by show _ = _; rw [HRG.out, g3]; rfl
     go_wp2_with fail
     go_ret
     exact ⟨ret_b hR.out.symm, BB.out⟩
   ·have g1 : decide ((k : Int) < (m.procs.length : Int)) = false := decide_eq_false (by omega)
    have g2 : decide (k < m.procs.length) = false := decide_eq_false h1
    have hR : Hid (rightB m (k : Int) = false) := by show _ = _; unfold rightB; rw [hfw, g0, g1]; rfl
    clear hfw
    go_wp2_with fail
    go_ret
    exact ⟨ret_b hR.out.symm, BB.out⟩
  ·have g0 : decide (0 ≤ n) = false := decide_eq_false h0
   have hR : Hid (rightB m n = false) := by show _ = _; unfold rightB; rw [hfw, g0]; rfl
   clear hfw
   go_wp2_with fail
   go_ret
   exact ⟨ret_b hR.out.symm, BB.out⟩
theorem rightB_is {m : Md} {n : Int} (h : rightB m n = true) : fewM m = true ∧ ∃ k : Nat, n = (k : Int) ∧ k < m.procs.length ∧ (m.procs.getD k default).regs ≤ 40 ∧ okM m = true := by
 unfold rightB at h
 simp only [Bool.and_eq_true, decide_eq_true_eq] at h
 obtain ⟨h0, h1, h2, h3, h4⟩ := h
 exact ⟨h0, n.toNat, by omega, by omega, h3, h4⟩
end Go.Proofs.Ytkhfddodmjnecaa
