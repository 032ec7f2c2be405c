/-
 A block of which nothing is reckoned twice (fold.block): the walk.
-/
import Derived.Test.YtkhfddodmjnecaaDoorZFoldTwice43
set_option linter.all false
namespace Go.Proofs.YtkhfddodmjnecaaDoor
open Go.ChangeShapes Go.WideShapes Go.ChangeAt Go.RowKit Go.Maps
set_option maxHeartbeats 16000000
set_option maxRecDepth 100000
set_option linter.unusedVariables false

def bkO (v : Value) (fin a t3 els : Int) : Obj := .cells #[v, .int .i64 fin, .int .i64 a, .int .i64 t3, .int .i64 els] 43
def bkZ : Obj := .cells #[.slice none 0 0, .int .i64 0, .int .i64 0, .int .i64 0, .int .i64 0] 43
/-- behind the loop -/
structure BlE (R : Int) (wI : World) (o1 : Obj) (q : Dkb) (c : Nat) (d : Dk) (vO : Value) (LI : List (In × Value)) (l : List In) (wr : World) (S : Nat → Prop) : Prop where
 dk : DkM wr S q c R d
 bl : Below wI.heap.size wI wr
 own : wr.ownsRow wI.heap.size 40 11 vO LI.length (LI.flatMap inCells)
 is : LI.map Prod.fst = l
 args : ∀ y ∈ LI, wr.ownsRow wI.heap.size 3 1 y.2 y.1.args.length (rowI y.1.args) ∧ ∀ g, y.2.ownBlock = some g → ¬ S g
 vn : ∀ g, vO.ownBlock = some g → ¬ S g
 b1 : wr.heap[wI.heap.size]? = some o1
 b2 : wr.heap[wI.heap.size + 1]? = some bkZ
 n2 : ¬ S wI.heap.size ∧ ¬ S (wI.heap.size + 1)
 sb : ∀ b, S b → wI.heap.size ≤ b
section
variable {R : Int} {wI : World} {o1 : Obj} {q : Dkb} {c : Nat} {d : Dk} {vO : Value} {LI : List (In × Value)} {l : List In} {wr w2 : World} {S S2 : Nat → Prop}
theorem BlE.step (h : BlE R wI o1 q c d vO LI l wr S) {c2 : Nat} {d2 : Dk} (hd : DkM w2 S2 q c2 R d2) (p : Stp S wr w2 S2) : BlE R wI o1 q c2 d2 vO LI l w2 S2 := by
 have l1 := (Array.getElem?_eq_some_iff.1 h.b1).1
 have l2 := (Array.getElem?_eq_some_iff.1 h.b2).1
 exact ⟨hd, h.bl.trans (p.below h.bl.size h.sb), ow_same h.own fun g hg => p.keep g (World.ownsRow.lt h.own g hg).2 (h.vn g hg), h.is, fun y hy => ⟨ow_same (h.args y hy).1 fun g hg => p.keep g (World.ownsRow.lt (h.args y hy).1 g hg).2 ((h.args y hy).2 g hg), fun g hg => p.away (World.ownsRow.lt (h.args y hy).1 g hg).2 ((h.args y hy).2 g hg)⟩,
  fun g hg => p.away (World.ownsRow.lt h.own g hg).2 (h.vn g hg), (p.keep _ l1 h.n2.1).trans h.b1, (p.keep _ l2 h.n2.2).trans h.b2, ⟨p.away l1 h.n2.1, p.away l2 h.n2.2⟩, p.base h.bl.size h.sb⟩
/-- the block's box is written -/
theorem BlE.box {fin a t3 els : Int} {v : Value} (h : BlE R wI (bkO v fin a t3 els) q c d vO LI l wr S) {o2 : Obj} (hb : But wI.heap.size wr w2) (hx : w2.heap[wI.heap.size]? = some o2) : BlE R wI o2 q c d vO LI l w2 S := by
 have l2 := (Array.getElem?_eq_some_iff.1 h.b2).1
 exact ⟨h.dk.but hb h.n2.1, h.bl.trans (hb.toBelow (Nat.le_refl _) h.bl.size), World.ownsRow.kept h.own (but_grownK hb) (.inr (row_not h.own h.b1 (by decide))), h.is, fun y hy => ⟨World.ownsRow.kept (h.args y hy).1 (but_grownK hb) (.inr (row_not (h.args y hy).1 h.b1 (by decide))), (h.args y hy).2⟩, h.vn, hx, (hb.block _ l2 (by omega)).trans h.b2, h.n2, h.sb⟩
/-- the result's box is written -/
theorem BlE.fin (h : BlE R wI o1 q c d vO LI l wr S) (hb : But (wI.heap.size + 1) wr w2) : KvR wI.heap.size w2 vO l ∧ Below wI.heap.size wI w2 := by
 have hz := h.b2
 unfold bkZ at hz
 exact ⟨⟨LI, h.is, World.ownsRow.kept h.own (but_grownK hb) (.inr (row_not h.own hz (by decide))), fun y hy => World.ownsRow.kept (h.args y hy).1 (but_grownK hb) (.inr (row_not (h.args y hy).1 hz (by decide)))⟩, h.bl.trans (hb.toBelow (by omega) h.bl.size)⟩
theorem BlE.below (h : BlE R wI o1 q c d vO LI l wr S) (hb : Below wr.heap.size wr w2) : BlE R wI o1 q c d vO LI l w2 S := h.step (h.dk.below hb) (Stp.of_below hb)
end
def BlkQ (b : Bk) (w : World) (e : Ending) (w' : World) : Prop := ∃ vI, e = .returned (.agg #[vI, .int .i64 (vlsB b).fin, .int .i64 (vlsB b).a, .int .i64 (vlsB b).to, .int .i64 (vlsB b).els]) ∧ KvR w.heap.size w' vI (vlsB b).ins ∧ Below w.heap.size w w'
theorem vblock_c (w : World) (R : Int) (b : Bk) (vb : Value) (hb : BkV w vb b) (hR : R ≤ 1000000) (ho : BlOk R b) :
  Calls Tryd.prog 13 #[vb] w (BlkQ b w) := by
 obtain ⟨vi, rfl, hvi⟩ := hb
 obtain ⟨ai, ci, rfl, i1, i2, i3⟩ := hvi
 have HIN := Lib.hid (RdIns.at (w := w) (a := ai) (c := ci) (l := b.ins) ⟨ai, ci, rfl, i1, i2, i3⟩).2
 have HO := Lib.hid ho
 have hlen := ho.len
 unfold maxLen at i2
 clear i3 ho
 have HVB : Hid (vlsB b = vlsE (dskL Dk0 b.ins) ⟨vlsL Dk0 b.ins, b.fin, b.a, b.to, b.els⟩) := rfl
 have HBA := Lib.hid HO.out.a
 obtain ⟨B, fin, ba, bto, bel⟩ := b
 dsimp only at *
 obtain ⟨W2, hW2⟩ : ∃ W2, W2 = (w.alloc (bkO (.slice ai B.length ci) fin ba bto bel)).alloc bkZ := ⟨_, rfl⟩
 have hW2' : W2 = allocs w [bkO (.slice ai B.length ci) fin ba bto bel, bkZ] := hW2
 have hB2 : Hid (Below w.heap.size w W2) := by rw [hW2']; exact allocs_below _ _
 have H0 : Hid (W2.heap[w.heap.size]? = some (bkO (.slice ai B.length ci) fin ba bto bel)) := by rw [hW2']; exact allocs_heap _ w 0 (by simp)
 have H1 : Hid (W2.heap[w.heap.size + 1]? = some bkZ) := by rw [hW2']; exact allocs_heap _ w 1 (by simp)
 have HW2 := Lib.hid hW2.symm
 clear hW2 hW2'
 have l0 := (Array.getElem?_eq_some_iff.1 H0.out).1
 have l1 := (Array.getElem?_eq_some_iff.1 H1.out).1
 have hD := DkM.made W2 R hR
 obtain ⟨W3, hW3⟩ : ∃ W3, W3 = (((((W2.alloc (.map #[] 0)).alloc (.map #[] 0)).alloc (.map #[] 0)).alloc (.map #[] 0)).alloc (.cells #[.map (some W2.heap.size), .map (some (W2.heap.size + 1)), .map (some (W2.heap.size + 2)), .map (some (W2.heap.size + 3)), .int .i64 0, .int .i64 0] 80)) := ⟨_, rfl⟩
 have hB3 : Below W2.heap.size W2 W3 := by
  have := allocs_below [Obj.map #[] 0, .map #[] 0, .map #[] 0, .map #[] 0, .cells #[.map (some W2.heap.size), .map (some (W2.heap.size + 1)), .map (some (W2.heap.size + 2)), .map (some (W2.heap.size + 3)), .int .i64 0, .int .i64 0] 80] W2
  rw [hW3]; exact this
 rw [← hW3] at hD
 have HW3 := Lib.hid hW3.symm
 clear hW3
 obtain ⟨S0, hS0⟩ : ∃ S0 : Nat → Prop, S0 = (fun b => b = W2.heap.size + 4 ∨ b = W2.heap.size ∨ b = W2.heap.size + 1 ∨ b = W2.heap.size + 2 ∨ b = W2.heap.size + 3) := ⟨_, rfl⟩
 rw [← hS0] at hD
 have HS0 : Hid (∀ b, S0 b → W2.heap.size ≤ b) := fun b hb => by rw [hS0] at hb; omega
 clear hS0
 have BS : Hid (∃ S', BlS R w.heap.size (bkO (.slice ai B.length ci) fin ba bto bel) W3 S0 ⟨W2.heap.size + 1 + 1 + 1 + 1, W2.heap.size, W2.heap.size + 1, W2.heap.size + 1 + 1, W2.heap.size + 1 + 1 + 1⟩ (2100 * 0) (dskL Dk0 (B.take 0)) (.slice none 0 0) [] (vlsL Dk0 (B.take 0)) W3 S') :=
  ⟨S0, hD, Stp.refl _ _, own_nil _ _ _ _, rfl, fun y hy => (by cases hy), fun g hg => (by cases hg), (hB3.block _ l0).trans H0.out, (hB3.block _ l1).trans H1.out, fun e => by have := HS0.out _ e; omega, fun e => by have := HS0.out _ e; omega⟩
 have HB3 := Lib.hid (hB2.out.trans (hB3.mono hB2.out.size))
 have hkb : w.heap.size + 1 < W3.heap.size := Nat.lt_of_lt_of_le l1 hB3.size
 have HKB := Lib.hid hkb
 have HS3 : Hid (∀ b, S0 b → w.heap.size ≤ b) := fun b hb => by have := HS0.out b hb; omega
 clear hD hB3 hkb hB2 HS0
 have hmm := @run_makeMap Tryd.prog
 unfold bkO bkZ at HW2
 obtain ⟨y0, y1, y2, y3, y4, -⟩ := cl5 H0.out
 go_enter Tryd.func13, Tryd.ntmps13
 go_upto_region 1 with (fail)
 rw [HW2.out]
 clear HW2
 go_upto_region 2 with (fail)
 have hW3 : (((((W2.alloc (.map #[] 0)).alloc (.map #[] 0)).alloc (.map #[] 0)).alloc (.map #[] 0)).alloc (.cells #[.map (some W2.heap.size), .map (some (W2.heap.size + 1)), .map (some (W2.heap.size + 1 + 1)), .map (some (W2.heap.size + 1 + 1 + 1)), .int .i64 0, .int .i64 0] 80)) = W3 := HW3.out
 rw [hW3]
 clear hW3 HW3 hmm y0 y1 y2 y3 y4
 obtain ⟨q, hq⟩ : ∃ q : Dkb, q = ⟨W2.heap.size + 1 + 1 + 1 + 1, W2.heap.size, W2.heap.size + 1, W2.heap.size + 1 + 1, W2.heap.size + 1 + 1 + 1⟩ := ⟨_, rfl⟩
 rw [← hq] at BS
 have hqb : W2.heap.size + 1 + 1 + 1 + 1 = q.bd := by rw [hq]
 rw [hqb]
 clear hq hqb l0 l1 H0 H1
 have H0 : Hid (W3.heap[w.heap.size]? = some (bkO (.slice ai B.length ci) fin ba bto bel)) := let ⟨S', h⟩ := BS.out; h.b1
 obtain ⟨y0, y1, y2, y3, y4, ly⟩ := cl5 H0.out
 go_wp2_with fail
 clear y0 y1 y2 y3 y4 ly H0
 go_loopw [4, 21] (fun vo i wr => ∃ (k : Nat) (LI : List (In × Value)), k ≤ B.length ∧ i = .int .i64 (k : Int) ∧ Hid (∃ S', BlS R w.heap.size (bkO (.slice ai B.length ci) fin ba bto bel) W3 S0 q (2100 * k) (dskL Dk0 (B.take k)) vo LI (vlsL Dk0 (B.take k)) wr S')) (fun _ i _ => B.length - (intOf i).toNat)
 case atStart => exact ⟨0, [], Nat.zero_le _, rfl, BS⟩
 case round =>
  clear BS
  obtain ⟨wq, rfl⟩ : ∃ wq, wq = wr := ⟨wr, rfl⟩
  obtain ⟨k, LI, hk, rfl, HS⟩ := hrel
  obtain ⟨S1, hs⟩ := HS.out
  have X1 := Lib.hid hs
  clear HS hs
  obtain ⟨av, cv, rfl⟩ := ow_form X1.out.own
  have HBR : Hid (Below w.heap.size w wq) := HB3.out.trans (X1.out.st.below (by have := HKB.out; omega) HS3.out)
  have HLI : Hid (LI.length ≤ 1000) := by
   have h1 := congrArg List.length X1.out.is
   rw [List.length_map] at h1
   have h2 := vlsL_len (B.take k) Dk0
   have h3 := List.length_take_le k B
   show _ ≤ _
   omega
  by_cases hlt : k < B.length
  ·have g1 : decide (k < B.length) = true := decide_eq_true hlt
   have g2 : decide ((k : Int) < (B.length : Int)) = true := decide_eq_true (by omega)
   obtain ⟨ib, io, va, rfl, lib, hva, c0, c1, c2, c3, c4, c5, c6, c7, c8, c9, c10⟩ := HIN.out k hlt
   have lift : ∀ {a : Addr} {u : Value}, w.cell? a = some u → wq.cell? a = some u := fun h => (Ext.below HBR.out) _ _ h
   have c0 := lift c0
   have c1 := lift c1
   have c2 := lift c2
   have c3 := lift c3
   have c4 := lift c4
   have c5 := lift c5
   have c6 := lift c6
   have c7 := lift c7
   have c8 := lift c8
   have c9 := lift c9
   have c10 := lift c10
   clear lift
   have lib : ib < wq.heap.size := World.block_lt_of_cell? _ _ c0
   have hmem : B.getD k default ∈ B := by simp [List.getD, hlt]
   have HRO := Lib.hid (HO.out.rd _ hmem)
   have HTO := Lib.hid (HO.out.tk _ hmem)
   have HAL := Lib.hid (HO.out.al _ hmem)
   have HVA := Lib.hid hva
   have HTK : Hid (B.take (k + 1) = B.take k ++ [B.getD k default]) := by
    show _ = _
    rw [List.take_succ, List.getElem?_eq_getElem hlt]; simp [List.getD, hlt]
   have HVS : Hid (vlsL Dk0 (B.take (k + 1)) = vlsL Dk0 (B.take k) ++ (if (insD (dskL Dk0 (B.take k)) (B.getD k default)).1.2 = true then [(insD (dskL Dk0 (B.take k)) (B.getD k default)).1.1] else [])) := by
    show _ = _
    rw [HTK.out, vlsL_snoc]
   have HDS : Hid (dskL Dk0 (B.take (k + 1)) = (insD (dskL Dk0 (B.take k)) (B.getD k default)).2) := by
    show _ = _
    rw [HTK.out, dskL_snoc]
   have EI : Hid (∀ W S', DkM W S' q (2100 * k) R (dskL Dk0 (B.take k)) → Below w.heap.size w W → (∀ b, S' b → w.heap.size ≤ b) → Calls Tryd.prog 27 #[.pointer (some ⟨q.bd, 0, none⟩), aggI (B.getD k default) va] W (OutQ S' q (2100 * k + 24 + 2 * (B.getD k default).args.length) R (insD (dskL Dk0 (B.take k)) (B.getD k default)) W)) := fun W S' h hb hS =>
    dins_c W S' q (2100 * k) R _ _ va w.heap.size h (by have := HAL.out; omega) hb.size hS (fun W' hW => HVA.out.ext (Ext.below (hb.trans hW))) HRO.out HTO.out (by have := HAL.out; omega)
   obtain ⟨aa, ac, rfl, -⟩ := hva
   clear hmem HRO HTO HVA HTK
   generalize insD (dskL Dk0 (B.take k)) (B.getD k default) = r at *
   obtain ⟨⟨out, need⟩, d'⟩ := r
   generalize dskL Dk0 (B.take k) = d at *
   generalize vlsL Dk0 (B.take k) = V at *
   generalize B.getD k default = I at *
   dsimp only at HVS HDS EI
   unfold aggI at EI
   have X5 := Lib.hid (X1.out.below (below_alloc wq (.cells #[.int .i64 I.op, .int .i64 I.d, .int .i64 I.a, .int .i64 I.b, .int .i64 I.fn, .int .i64 I.obj, .int .i64 I.off, .int .i64 I.size, .int .u32 I.num, .slice aa I.args.length ac, .bool I.log] 40)))
   have HB5 : Hid (Below w.heap.size w (wq.alloc (.cells #[.int .i64 I.op, .int .i64 I.d, .int .i64 I.a, .int .i64 I.b, .int .i64 I.fn, .int .i64 I.obj, .int .i64 I.off, .int .i64 I.size, .int .u32 I.num, .slice aa I.args.length ac, .bool I.log] 40))) := HBR.out.trans ((below_alloc wq _).mono HBR.out.size)
   have HS1 : Hid (∀ b, S1 b → w.heap.size ≤ b) := X1.out.st.base (by have := HKB.out; omega) HS3.out
   clear X1
   go_wp2_with fail
   refine (EI.out _ _ X5.out.dk HB5.out HS1.out).mono ?_
   rintro e w6 ⟨va', S6, rfl, ho6, hv6, hd6, p6⟩
   have X6 := Lib.hid ((X5.out.step hd6 p6).mono (c' := 2100 * (k + 1)) (by have := HAL.out; omega))
   obtain ⟨av', cv', rfl⟩ := ow_form ho6
   have HO6 := Lib.hid (ow_base (B' := w.heap.size) ho6 HB5.out.size)
   have HV6 := Lib.hid hv6
   clear ho6 hv6 hd6 p6 EI X5 HB5 HS1 HBR c0 c1 c2 c3 c4 c5 c6 c7 c8 c9 c10 lib
   dsimp only at HO6 HV6 X6
   unfold aggI
   cases need
   ·rw [if_neg (by decide), List.append_nil] at HVS
    have X7 := Lib.hid (X6.out.below (below_alloc w6 (.cells #[.int .i64 out.op, .int .i64 out.d, .int .i64 out.a, .int .i64 out.b, .int .i64 out.fn, .int .i64 out.obj, .int .i64 out.off, .int .i64 out.size, .int .u32 out.num, .slice av' out.args.length cv', .bool out.log] 40)))
    clear X6
    go_wp2_with fail
    go_roundw
    case rel => exact ⟨k + 1, LI, hlt, by go_num, S6, by rw [HVS.out, HDS.out]; exact X7.out⟩
    case measure => simp [intOf]; omega
   ·rw [if_pos rfl] at HVS
    have X7 := Lib.hid ((X6.out.below (below_alloc w6 (.cells #[.int .i64 out.op, .int .i64 out.d, .int .i64 out.a, .int .i64 out.b, .int .i64 out.fn, .int .i64 out.obj, .int .i64 out.off, .int .i64 out.size, .int .u32 out.num, .slice av' out.args.length cv', .bool out.log] 40))).below (below_alloc _ (.cells #[.int .i64 out.op, .int .i64 out.d, .int .i64 out.a, .int .i64 out.b, .int .i64 out.fn, .int .i64 out.obj, .int .i64 out.off, .int .i64 out.size, .int .u32 out.num, .slice av' out.args.length cv', .bool out.log] 40)))
    have HCX : Hid (∀ jj u, (inCells (out, .slice av' out.args.length cv'))[jj]? = some u → ((w6.alloc (.cells #[.int .i64 out.op, .int .i64 out.d, .int .i64 out.a, .int .i64 out.b, .int .i64 out.fn, .int .i64 out.obj, .int .i64 out.off, .int .i64 out.size, .int .u32 out.num, .slice av' out.args.length cv', .bool out.log] 40)).alloc (.cells #[.int .i64 out.op, .int .i64 out.d, .int .i64 out.a, .int .i64 out.b, .int .i64 out.fn, .int .i64 out.obj, .int .i64 out.off, .int .i64 out.size, .int .u32 out.num, .slice av' out.args.length cv', .bool out.log] 40)).cell? ⟨w6.heap.size + 1, jj, none⟩ = some u) := cell_newX _ (inCells (out, .slice av' out.args.length cv')) 40 _ (by simp)
    have HO7 := Lib.hid (own_below (own_below HO6.out (below_alloc w6 (.cells #[.int .i64 out.op, .int .i64 out.d, .int .i64 out.a, .int .i64 out.b, .int .i64 out.fn, .int .i64 out.obj, .int .i64 out.off, .int .i64 out.size, .int .u32 out.num, .slice av' out.args.length cv', .bool out.log] 40))) (below_alloc _ (.cells #[.int .i64 out.op, .int .i64 out.d, .int .i64 out.a, .int .i64 out.b, .int .i64 out.fn, .int .i64 out.obj, .int .i64 out.off, .int .i64 out.size, .int .u32 out.num, .slice av' out.args.length cv', .bool out.log] 40)))
    clear X6
    have hLI := HLI.out
    go_wp2_with (at_builtin; refine appG 41 40 info_in Tryd.underlying41 rfl (by decide) (by decide) (inCells (out, .slice av' out.args.length cv')) rfl (fun u hu => by simp only [inCells, List.mem_cons, List.not_mem_nil, or_false] at hu; rcases hu with rfl | rfl | rfl | rfl | rfl | rfl | rfl | rfl | rfl | rfl | rfl <;> rfl) X7.out.own rfl rfl rfl rfl HCX.out (by omega) (by have := X7.out.st.size; simpa using this) ?_; intro v8 w8 O8 G8 D8)
    have X8 := Lib.hid (X7.out.app HO7.out HV6.out O8 G8 D8 HKB.out)
    obtain ⟨a8, c8, rfl⟩ := ow_form O8
    clear O8 G8 D8 X7 HO7 HCX
    go_wp2_with fail
    go_roundw
    case rel => exact ⟨k + 1, _, hlt, by go_num, S6, by rw [HVS.out, HDS.out]; exact X8.out⟩
    case measure => simp [intOf]; omega
  ·obtain rfl : k = B.length := by omega
   have g1 : decide (B.length < B.length) = false := decide_eq_false (Nat.lt_irrefl _)
   have g2 : decide ((B.length : Int) < (B.length : Int)) = false := decide_eq_false (by omega)
   rw [List.take_length] at X1
   have HVI := Lib.hid X1.out.is
   have E1 : Hid (BlE R w (bkO (.slice ai B.length ci) fin ba bto bel) q (2100 * B.length) (dskL Dk0 B) (.slice av LI.length cv) LI (vlsL Dk0 B) wq S1) := ⟨X1.out.dk, HBR.out, ow_base X1.out.own (by have := HKB.out; omega), X1.out.is, X1.out.args, X1.out.vn, X1.out.b1, X1.out.b2, X1.out.n2, X1.out.st.base (by have := HKB.out; omega) HS3.out⟩
   clear X1 HBR HS3 HB3 HIN hk HVI HLI
   have hcb : 2100 * B.length ≤ 2100000 := by omega
   generalize 2100 * B.length = cb at *
   generalize dskL Dk0 B = d at *
   generalize vlsL Dk0 B = V at *
   have hx3 := E1.out.b1
   unfold bkO at hx3
   obtain ⟨x0, x1, x2, x3, x4, lx⟩ := cl5 hx3
   have e0 := frozen_of_heap hx3 0
   have e2 := frozen_of_heap hx3 2
   clear hx3
   have E2 : Hid (BlE R w (bkO (.slice av LI.length cv) fin ba bto bel) q cb d (.slice av LI.length cv) LI V (wq.setCell ⟨w.heap.size, 0, none⟩ (.slice av LI.length cv)) S1) := E1.out.box (But.setCell _ _ _ _) (by
    have := E1.out.b1
    unfold bkO at this ⊢
    exact heap_setCell_same wq w.heap.size 0 _ _ _ this)
   go_upto_region 11 with (fail)
   generalize wq.setCell ⟨w.heap.size, 0, none⟩ (.slice av LI.length cv) = w2 at E2 ⊢
   clear x0 x1 x2 x3 x4 lx e0 e2
   clear E1
   have hx3 := E2.out.b1
   unfold bkO at hx3
   obtain ⟨x0, x1, x2, x3, x4, lx⟩ := cl5 hx3
   have e0 := frozen_of_heap hx3 0
   have e2 := frozen_of_heap hx3 2
   clear hx3
   by_cases h1 : ba = -1
   ·have g3 : (ba == -1) = true := beq_iff_eq.2 h1
    have HV : Hid (vlsB ⟨B, fin, ba, bto, bel⟩ = ⟨V, fin, ba, bto, bel⟩) := by
     refine HVB.out.trans ?_
     unfold vlsE
     exact if_pos h1
    clear h1 HVB
    have hx4 := E2.out.b2
    unfold bkZ at hx4
    obtain ⟨z0, z1, z2, z3, z4, lz⟩ := cl5 hx4
    have f0 := frozen_of_heap hx4 0
    have f1 := frozen_of_heap hx4 1
    have f2 := frozen_of_heap hx4 2
    have f3 := frozen_of_heap hx4 3
    have f4 := frozen_of_heap hx4 4
    clear hx4
    go_wp2_with fail
    refine bodyPost_ret (v := .agg #[.slice av LI.length cv, .int .i64 fin, .int .i64 ba, .int .i64 bto, .int .i64 bel]) (by simp [results, Tryd.results13, go_sem, z0, z1, z2, z3, z4, f0, f1, f2, f3, f4]) rfl ?_
    obtain ⟨k1, k2⟩ := E2.out.fin (((((But.setCell _ _ _ _).trans (But.setCell _ _ _ _)).trans (But.setCell _ _ _ _)).trans (But.setCell _ _ _ _)).trans (But.setCell _ _ _ _))
    refine ⟨.slice av LI.length cv, ?_, ?_, k2⟩
    ·rw [HV.out]
    ·rw [HV.out]; exact k1
   ·have g3 : (ba == -1) = false := beq_eq_false_iff_ne.2 h1
    have hba : 0 ≤ ba ∧ ba < R := by have := HBA.out; omega
    have HV1 : Hid (vlsB ⟨B, fin, ba, bto, bel⟩ = if fin = 2 then (match (valueD d ba).2.num (valueD d ba).1 with | some n => jmpB ⟨V, fin, ba, bto, bel⟩ n | none => ⟨V, fin, holderD (valueD d ba).2 (valueD d ba).1, bto, bel⟩) else ⟨V, fin, holderD (valueD d ba).2 (valueD d ba).1, bto, bel⟩) := by
     refine HVB.out.trans ?_
     unfold vlsE
     exact if_neg h1
    have EV := Lib.hid (value_c w2 S1 q cb R d ba E2.out.dk (by omega) hba)
    have HVV := Lib.hid (E2.out.dk.B.value hba).2.1
    clear h1 HVB HBA hba
    generalize valueD d ba = vd at *
    obtain ⟨v, d'⟩ := vd
    dsimp only at EV HV1 HVV
    go_wp2_with fail
    refine EV.out.mono ?_
    rintro e w3 ⟨rfl, S3, h3, p3⟩
    have E3 := Lib.hid (E2.out.step h3 p3)
    clear x0 x1 x2 x3 x4 lx e0 e2
    clear h3 p3 EV E2
    have hx3 := E3.out.b1
    unfold bkO at hx3
    obtain ⟨x0, x1, x2, x3, x4, lx⟩ := cl5 hx3
    have e0 := frozen_of_heap hx3 0
    have e2 := frozen_of_heap hx3 2
    clear hx3
    have EHO := Lib.hid (holder_c w3 S3 q _ R d' v E3.out.dk (by omega) HVV.out)
    generalize holderD d' v = hh at *
    go_wp2_with fail
    refine EHO.out.mono ?_
    rintro e w4 ⟨rfl, rfl⟩
    have E4 : Hid (BlE R w (bkO (.slice av LI.length cv) fin hh bto bel) q (cb + 2) d' (.slice av LI.length cv) LI V (w4.setCell ⟨w.heap.size, 2, none⟩ (.int .i64 hh)) S3) := E3.out.box (But.setCell _ _ _ _) (by
     have := E3.out.b1
     unfold bkO at this ⊢
     exact heap_setCell_same w4 w.heap.size 2 _ _ _ this)
    go_upto_region 15 with (fail)
    generalize w4.setCell ⟨w.heap.size, 2, none⟩ (.int .i64 hh) = w5 at E4 ⊢
    clear x0 x1 x2 x3 x4 lx e0 e2
    clear E3 EHO
    have hx3 := E4.out.b1
    unfold bkO at hx3
    obtain ⟨x0, x1, x2, x3, x4, lx⟩ := cl5 hx3
    have e0 := frozen_of_heap hx3 0
    have e2 := frozen_of_heap hx3 2
    clear hx3
    have hvs := E4.out.dk.bd
    have hvv := HVV.out
    obtain ⟨y0, y1, y2, y3, y4, y5, ly⟩ := cl6 E4.out.dk.st
    have hlk : (Instr.lookup 77 (.map (some q.bn)) (.int .i64 v) true).run Tryd.prog w5 = .ok (.tuple #[.int .u32 ((d'.num v).getD 0), .bool (d'.num v).isSome]) w5 := let ⟨vf, h⟩ := E4.out.dk; h.lookNum (v := v) ⟨by omega, by omega⟩
    have hx4 := E4.out.b2
    unfold bkZ at hx4
    obtain ⟨z0, z1, z2, z3, z4, lz⟩ := cl5 hx4
    have f0 := frozen_of_heap hx4 0
    have f1 := frozen_of_heap hx4 1
    have f2 := frozen_of_heap hx4 2
    have f3 := frozen_of_heap hx4 3
    have f4 := frozen_of_heap hx4 4
    clear hx4
    cases hnum : d'.num v with
    | none =>
     rw [hnum] at hlk HV1
     simp only [Option.isSome_none, Option.getD_none] at hlk
     have HV : Hid (vlsB ⟨B, fin, ba, bto, bel⟩ = ⟨V, fin, hh, bto, bel⟩) := by
      refine HV1.out.trans ?_
      split <;> rfl
     clear hnum HV1 hvs hvv
     go_wp2_with fail
     refine bodyPost_ret (v := .agg #[.slice av LI.length cv, .int .i64 fin, .int .i64 hh, .int .i64 bto, .int .i64 bel]) (by simp [results, Tryd.results13, go_sem, z0, z1, z2, z3, z4, f0, f1, f2, f3, f4]) rfl ?_
     obtain ⟨k1, k2⟩ := E4.out.fin (((((But.setCell _ _ _ _).trans (But.setCell _ _ _ _)).trans (But.setCell _ _ _ _)).trans (But.setCell _ _ _ _)).trans (But.setCell _ _ _ _))
     refine ⟨.slice av LI.length cv, ?_, ?_, k2⟩
     ·rw [HV.out]
     ·rw [HV.out]; exact k1
    | some n =>
     rw [hnum] at hlk HV1
     simp only [Option.isSome_some, Option.getD_some] at hlk
     clear hnum hvs hvv
     by_cases h2 : fin = 2
     ·have g4 : (fin == 2) = true := beq_iff_eq.2 h2
      have HV : Hid (vlsB ⟨B, fin, ba, bto, bel⟩ = ⟨V, 1, -1, if n = 0 then bel else bto, 0⟩) := by
       refine HV1.out.trans ?_
       exact if_pos h2
      have EJ := Lib.hid (jumped_c av LI.length cv fin hh bto bel n w5)
      clear h2 HV1
      generalize (if n = 0 then bel else bto) = tt at HV EJ
      go_wp2_with fail
      refine EJ.out.mono ?_
      rintro e w6 ⟨rfl, hb6⟩
      have E6 := Lib.hid (E4.out.below hb6)
      clear z0 z1 z2 z3 z4 lz f0 f1 f2 f3 f4 hb6 EJ
      have hx4 := E6.out.b2
      unfold bkZ at hx4
      obtain ⟨z0, z1, z2, z3, z4, lz⟩ := cl5 hx4
      have f0 := frozen_of_heap hx4 0
      have f1 := frozen_of_heap hx4 1
      have f2 := frozen_of_heap hx4 2
      have f3 := frozen_of_heap hx4 3
      have f4 := frozen_of_heap hx4 4
      clear hx4
      go_wp2_with fail
      refine bodyPost_ret (v := .agg #[.slice av LI.length cv, .int .i64 1, .int .i64 (-1), .int .i64 tt, .int .i64 0]) (by simp [results, Tryd.results13, go_sem, z0, z1, z2, z3, z4, f0, f1, f2, f3, f4]) rfl ?_
      obtain ⟨k1, k2⟩ := E6.out.fin (((((But.setCell _ _ _ _).trans (But.setCell _ _ _ _)).trans (But.setCell _ _ _ _)).trans (But.setCell _ _ _ _)).trans (But.setCell _ _ _ _))
      refine ⟨.slice av LI.length cv, ?_, ?_, k2⟩
      ·rw [HV.out]
      ·rw [HV.out]; exact k1
     ·have g4 : (fin == 2) = false := beq_eq_false_iff_ne.2 h2
      have HV : Hid (vlsB ⟨B, fin, ba, bto, bel⟩ = ⟨V, fin, hh, bto, bel⟩) := by
       refine HV1.out.trans ?_
       exact if_neg h2
      clear h2 HV1
      go_wp2_with fail
      refine bodyPost_ret (v := .agg #[.slice av LI.length cv, .int .i64 fin, .int .i64 hh, .int .i64 bto, .int .i64 bel]) (by simp [results, Tryd.results13, go_sem, z0, z1, z2, z3, z4, f0, f1, f2, f3, f4]) rfl ?_
      obtain ⟨k1, k2⟩ := E4.out.fin (((((But.setCell _ _ _ _).trans (But.setCell _ _ _ _)).trans (But.setCell _ _ _ _)).trans (But.setCell _ _ _ _)).trans (But.setCell _ _ _ _))
      refine ⟨.slice av LI.length cv, ?_, ?_, k2⟩
      ·rw [HV.out]
      ·rw [HV.out]; exact k1
end Go.Proofs.YtkhfddodmjnecaaDoor
