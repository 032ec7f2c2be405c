/-
 The document's answer for alias: what a call adds.
-/
import Derived.Test.YtkhfddodmjnecaaZAliasMeets41
import Derived.Test.YtkhfddodmjnecaaZAliasMeets15
set_option linter.all false
namespace Go.Proofs.Ytkhfddodmjnecaa
open Go.ChangeShapes Go.WideShapes Go.ChangeAt Go.RowKit
set_option maxHeartbeats 4000000
set_option maxRecDepth 100000
set_option linter.unusedVariables false

theorem keepBel4x {w w' : World} {a b c d : Nat} (hb : Below w.heap.size w w') (ha : a < w.heap.size) (hb' : b < w.heap.size) (hc : c < w.heap.size) (hd : d < w.heap.size) : Keep (fun x => x = a ∨ x = b ∨ x = c ∨ x = d) w w' := fun z o hs => hb.cell (p := ⟨z, o, none⟩) (by rcases hs with rfl | rfl | rfl | rfl <;> assumption)
def argC (args : List Int) : List Con := args.map fun r => .sub (some r.toNat) none
theorem argC_step (x : AR) (args : List Int) (j r : Nat) (hj : j < args.length) (hr : args.getD j 0 = (r : Int)) : x.pass (argC (args.take (j + 1))) = ⟨(x.pass (argC (args.take j))).regs, orL (x.pass (argC (args.take j))).out ((x.pass (argC (args.take j))).regs.getD r [])⟩ := by
 have e : args[j]? = some (r : Int) := by
  have := List.getElem?_eq_getElem hj
  rw [this]
  simp only [List.getD, this, Option.getD_some] at hr
  rw [hr]
 unfold argC AR.pass
 rw [List.take_succ, e, List.map_append, List.foldl_append]
 rfl
theorem ins21_9n (w0 w : World) (k : AlK) (x : AR) (o : Int) (V : Value) (a b fn obj off size num : Int) (args : List Int) (lg : Bool) (h : AlM w0 w k x) (hv : InV w0 V ⟨9, -1, a, b, fn, obj, off, size, num, args, lg⟩) (hargs : ∀ j, j < args.length → ∃ r : Nat, args.getD j 0 = (r : Int) ∧ r < k.n) (hal : args.length ≤ 1000) (hT : k.T ≤ 1000) (hT0 : 0 < k.T) :
  Calls Try.prog 51 #[.pointer (some ⟨k.bx, 0, none⟩), .int .i64 o, V] w (InsQ w0 k (x.pass (argC args))) := by
 obtain ⟨va, rfl, aa, ac, rfl, ha1, ha2, ha3⟩ := hv
 dsimp only at ha1 ha2 ha3 ⊢
 have HAR := Lib.hid hargs
 have HAA := Lib.hid ha3
 have hwx := h.lt
 unfold maxLen at ha2
 have H := Lib.hid h
 clear hargs ha3 h
 go_enter Try.func51, Try.ntmps51
 go_wp2_with fail
 obtain ⟨W1, hW1⟩ : ∃ W1 : World, W1 = w.alloc (.cells #[.int .i64 9, .int .i64 (-1), .int .i64 a, .int .i64 b, .int .i64 fn, .int .i64 obj, .int .i64 off, .int .i64 size, .int .u32 num, .slice aa args.length ac, .bool lg] 39) := ⟨_, rfl⟩
 rw [← hW1]
 have HBSt : Hid (W1.heap[w.heap.size]? = some (.cells #[.int .i64 9, .int .i64 (-1), .int .i64 a, .int .i64 b, .int .i64 fn, .int .i64 obj, .int .i64 off, .int .i64 size, .int .u32 num, .slice aa args.length ac, .bool lg] 39)) := by rw [hW1]; exact heap_alloc_new w _
 have BD1 : Below w.heap.size w W1 := by rw [hW1]; exact below_alloc w _
 have HSt : Hid (AlM w0 W1 k (x.pass (argC (args.take 0)))) := H.out.grow BD1
 clear hW1 BD1 H
 go_loopw [6] (fun i wr => ∃ j : Nat, j ≤ args.length ∧ i = .int .i64 (j : Int) ∧ Hid (∃ k', AlM w0 wr k' (x.pass (argC (args.take j))) ∧ k'.bx = k.bx ∧ k'.vr = k.vr ∧ k'.T = k.T ∧ k'.n = k.n) ∧ Hid (wr.heap[w.heap.size]? = some (.cells #[.int .i64 9, .int .i64 (-1), .int .i64 a, .int .i64 b, .int .i64 fn, .int .i64 obj, .int .i64 off, .int .i64 size, .int .u32 num, .slice aa args.length ac, .bool lg] 39))) (fun i _ => args.length - (intOf i).toNat)
 case atStart => exact ⟨0, Nat.zero_le _, rfl, ⟨_, HSt.out, rfl, rfl, rfl, rfl⟩, HBSt⟩
 case round =>
  obtain ⟨j, hj, rfl, HX, HB⟩ := hrel
  obtain ⟨k', H, q1, q2, q3, q4⟩ := HX.out
  have HS1 := Lib.hid (fun r => argC_step x args j r)
  obtain ⟨bx', vr', rs', ro', T', n'⟩ := k'
  dsimp only at q1 q2 q3 q4
  subst q1 q2 q3 q4
  clear HX HSt HBSt
  by_cases hlt : j < args.length
  ·obtain ⟨r, hr1, hr2⟩ := HAR.out j hlt
   have HS2 := Lib.hid (HS1.out r hlt hr1)
   generalize x.pass (argC (args.take j)) = X at *
   obtain ⟨br, cp, hvr, e1, e2, e3, -, e4, e5⟩ := H.at hr2
   have y := e4 r hr2
   obtain ⟨ba, bo, rfl, z⟩ := HAA.out j hlt
   rw [hr1] at z
   simp only [Nat.mul_one, Nat.add_zero] at z
   have lba := World.block_lt_of_cell? _ _ z
   have z : wr.cell? ⟨ba, bo + j, none⟩ = some (.int .i64 (r : Int)) := (H.below.cell (p := ⟨ba, bo + j, none⟩) lba).trans z
   have lba : ba < wr.heap.size := World.block_lt_of_cell? _ _ z
   have gj : decide ((j : Int) < (args.length : Int)) = true := decide_eq_true (by omega)
   have gj2 : decide (j < args.length) = true := decide_eq_true hlt
   have gr : decide ((r : Int) < (k.n : Int)) = true := decide_eq_true (by have : r < k.n := hr2; omega)
   have gr2 : decide (r < k.n) = true := decide_eq_true hr2
   have HRr := Lib.hid (H.row r hr2)
   have HLr : Hid ((X.regs.getD r []).length = k.T) := H.ok.get (some r) fun q e => by cases e; exact hr2
   have HRo := Lib.hid H.out
   have HLo := Lib.hid H.ok.out
   have hlx : k.bx < wr.heap.size := H.lt
   have c0 : wr.cell? ⟨k.bx, 0, none⟩ = some (.slice (some ⟨br, 0, none⟩) k.n cp) := by rw [cell_of_heap H.hv 0, ← hvr]; rfl
   have c1 : wr.cell? ⟨k.bx, 1, none⟩ = some (.slice (some ⟨ro'.1, 0, none⟩) k.T ro'.2) := by rw [cell_of_heap H.hv 1]; rfl
   have yf : wr.frozen? ⟨k.bx, 1, none⟩ = false := frozen_of_heap H.hv 1
   have H := Lib.hid H
   clear e4 e5 hvr
   unfold maxLen at e2
   unfold rowV at y
   dsimp only at y HRr HRo
   generalize rs'.getD r (0, 0) = Rr at *
   obtain ⟨gr', kr'⟩ := Rr
   obtain ⟨og, oc⟩ := ro'
   dsimp only at y HRr HRo c1
   obtain ⟨b0, b1, b2, b3, b4, b5, b6, b7, b8, b9, b10, lb⟩ := cl11 HB.out
   go_wp2_with fail
   refine wp_region_game (fun z => z = k.bx ∨ z = br ∨ z = w.heap.size ∨ z = ba) (by kernel_rfl) ?_
   obtain ⟨W2, hW2⟩ : ∃ W2 : World, W2 = wr.drew := ⟨_, rfl⟩
   first | rw [← hW2] | rw [show (⟨wr.heap, wr.tape, wr.drawn + 1, wr.os, wr.output⟩ : World) = W2 from hW2.symm]
   have BD : Below wr.heap.size wr W2 := by rw [hW2]; exact (Below.refl _ _).drew
   clear hW2
   have H := Lib.hid (H.out.grow BD)
   have HRr := Lib.hid (HRr.out.below BD)
   have HRo := Lib.hid (HRo.out.below BD)
   have HB := Lib.hid ((BD.block _ lb).trans HB.out)
   have c0 : W2.cell? ⟨k.bx, 0, none⟩ = _ := (BD.cell (p := ⟨k.bx, 0, none⟩) hlx).trans c0
   have c1 : W2.cell? ⟨k.bx, 1, none⟩ = _ := (BD.cell (p := ⟨k.bx, 1, none⟩) hlx).trans c1
   have y : W2.cell? ⟨br, r, none⟩ = _ := (BD.cell (p := ⟨br, r, none⟩) e3).trans y
   have z : W2.cell? ⟨ba, bo + j, none⟩ = _ := (BD.cell (p := ⟨ba, bo + j, none⟩) lba).trans z
   have yf : W2.frozen? ⟨k.bx, 1, none⟩ = false := (BD.frozen (p := ⟨k.bx, 1, none⟩) hlx).trans yf
   have hlx : k.bx < W2.heap.size := Nat.lt_of_lt_of_le hlx BD.size
   have e3 : br < W2.heap.size := Nat.lt_of_lt_of_le e3 BD.size
   have lba : ba < W2.heap.size := Nat.lt_of_lt_of_le lba BD.size
   clear b0 b1 b2 b3 b4 b5 b6 b7 b8 b9 b10
   obtain ⟨b0, b1, b2, b3, b4, b5, b6, b7, b8, b9, b10, lb⟩ := cl11 HB.out
   refine E_mob2s [0, 1, 2, 3, 4, 5, 6, 7, 8, 9, 10, 11, 12, 13, 14, 15] _ _ _ _ (by kernel_rfl) ?_
   simp only [List.map_cons, List.map_nil, List.getElem?_toArray, List.getElem?_cons_succ, List.getElem?_cons_zero, Option.getD_some, List.size_toArray, List.length_cons, List.length_nil, Nat.reduceAdd, Nat.reduceSub]
   repeat (go_big_quiet_step (fail))
   refine wpQuiet_nil ?_
   have HC := Lib.hid (joinB21_c og k.T oc gr' k.T kr' _ _ W2 HRo.out HRr.out (by rw [HLo.out, HLr.out]; exact Nat.le_refl _) (by rw [HLr.out]; exact hT))
   refine E_loud1 16 _ rfl (by kernel_rfl) ?_
   simp only [List.getElem_toArray, List.getElem_cons_succ, List.getElem_cons_zero]
   go_wp2_with fail
   refine HC.out.mono ?_
   rintro e w3 ⟨v, rfl, ho, hb⟩
   obtain ⟨q1, j1, rfl, hg, hgl, hgs⟩ := own_rowB ho (by rw [orL_len, HLo.out]; exact hT0)
   rw [orL_len, HLo.out] at hg ⊢
   have H := Lib.hid (H.out.grow hb)
   have HB := Lib.hid ((hb.block _ lb).trans HB.out)
   have hkeep := Lib.hid (keepBel4x hb hlx e3 lb lba)
   have yf : w3.frozen? ⟨k.bx, 1, none⟩ = false := (hb.frozen (p := ⟨k.bx, 1, none⟩) hlx).trans yf
   have c1 : w3.cell? ⟨k.bx, 1, none⟩ = _ := (hb.cell (p := ⟨k.bx, 1, none⟩) hlx).trans c1
   have hlx : k.bx < w3.heap.size := Nat.lt_of_lt_of_le hlx hb.size
   have hG := Lib.hid hg
   clear ho hg HC
   unfold rowV
   go_wp2_with fail
   refine ⟨hkeep.out, ?_⟩
   clear hkeep
   try simp only [Act.put, List.setIfInBounds_toArray, List.set_cons_succ, List.set_cons_zero]
   refine E_mob2s [17, 18] _ _ _ _ (by kernel_rfl) ?_
   simp only [List.map_cons, List.map_nil, List.getElem?_toArray, List.getElem?_cons_succ, List.getElem?_cons_zero, Option.getD_some, List.size_toArray, List.length_cons, List.length_nil, Nat.reduceAdd, Nat.reduceSub]
   repeat (go_big_quiet_step (fail))
   refine wpQuiet_nil ?_
   refine E_last 19 _ rfl (by kernel_rfl) ?_
   simp only [List.getElem_toArray, List.getElem_cons_succ, List.getElem_cons_zero]
   go_wp2_with fail
   refine E_done (by kernel_rfl) ?_ _
   have H4 := Lib.hid (H.out.setO hG.out (by rw [orL_len, HLo.out]))
   have HB4 : Hid ((w3.setCell ⟨k.bx, 1, none⟩ (rowV q1 k.T j1)).heap[w.heap.size]? = _) := (Below.heap_setCell w3 ⟨k.bx, 1, none⟩ _ w.heap.size (by have := hwx; show w.heap.size ≠ k.bx; omega)).trans HB.out
   unfold rowV at H4 HB4
   dsimp only at H4
   go_wp2_with fail
   go_roundw
   case rel => exact ⟨j + 1, by omega, by go_num, ⟨AlK.setO ⟨k.bx, k.vr, rs', (og, oc), k.T, k.n⟩ q1 j1, by rw [HS2.out]; exact H4.out, rfl, rfl, rfl, rfl⟩, HB4⟩
   case measure => simp [intOf]; omega
  ·obtain rfl : j = args.length := by omega
   obtain ⟨b0, b1, b2, b3, b4, b5, b6, b7, b8, b9, b10, lb⟩ := cl11 HB.out
   go_wp2_with fail
   go_end0
   rw [List.take_length] at H
   exact ⟨rfl, ⟨k.bx, k.vr, rs', ro', k.T, k.n⟩, H, rfl, rfl, rfl, rfl⟩
theorem ins21_9d (w0 w : World) (k : AlK) (x : AR) (o : Int) (V : Value) (d : Nat) (a b fn obj off size num : Int) (args : List Int) (lg : Bool) (h : AlM w0 w k x) (hv : InV w0 V ⟨9, d, a, b, fn, obj, off, size, num, args, lg⟩) (hd : d < k.n)  (X1 : AR) (hX1 : X1 = ⟨x.regs.set d (orL (x.regs.getD d []) x.out), x.out⟩) (hargs : ∀ j, j < args.length → ∃ r : Nat, args.getD j 0 = (r : Int) ∧ r < k.n) (hal : args.length ≤ 1000) (hT : k.T ≤ 1000) (hT0 : 0 < k.T) :
  Calls Try.prog 51 #[.pointer (some ⟨k.bx, 0, none⟩), .int .i64 o, V] w (InsQ w0 k (X1.pass (argC args))) := by
 obtain ⟨va, rfl, aa, ac, rfl, ha1, ha2, ha3⟩ := hv
 dsimp only at ha1 ha2 ha3 ⊢
 have HAR := Lib.hid hargs
 have HAA := Lib.hid ha3
 have hwx := h.lt
 have HX1 := Lib.hid hX1
 have gneg : ((d : Int) != -1) = true := by rw [bne_iff_ne]; omega
 unfold maxLen at ha2
 clear hargs ha3 hX1
 obtain ⟨br, cp, hvr, e1, e2, e3, -, e4, e5⟩ := h.at hd
 have yd := e4 d hd
 have gd1 : decide (d < k.n) = true := decide_eq_true hd
 have gd2 : decide ((d : Int) < (k.n : Int)) = true := decide_eq_true (by omega)
 have HRd := Lib.hid (h.row d hd)
 have HLd : Hid ((x.regs.getD d []).length = k.T) := h.ok.get (some d) fun q e => by cases e; exact hd
 have HRo := Lib.hid h.out
 have HLo := Lib.hid h.ok.out
 have yf := e5 d
 clear e4 e5
 unfold maxLen at e2
 have H := Lib.hid h
 have hlx := h.lt
 have c0 : w.cell? ⟨k.bx, 0, none⟩ = some (.slice (some ⟨br, 0, none⟩) k.n cp) := by rw [cell_of_heap h.hv 0, ← hvr]; rfl
 have c1 : w.cell? ⟨k.bx, 1, none⟩ = some (.slice (some ⟨k.ro.1, 0, none⟩) k.T k.ro.2) := by rw [cell_of_heap h.hv 1]; rfl
 have Hvr := Lib.hid hvr
 clear h hvr
 unfold rowV at yd
 generalize hro : k.ro = RO at *
 clear hro
 obtain ⟨og, oc⟩ := RO
 dsimp only at c1 HRo
 generalize k.rs.getD d (0, 0) = Rd at *
 obtain ⟨gd, kd⟩ := Rd
 dsimp only at yd HRd
 go_enter Try.func51, Try.ntmps51
 go_wp2_with fail
 obtain ⟨W1, hW1⟩ : ∃ W1 : World, W1 = w.alloc (.cells #[.int .i64 9, .int .i64 d, .int .i64 a, .int .i64 b, .int .i64 fn, .int .i64 obj, .int .i64 off, .int .i64 size, .int .u32 num, .slice aa args.length ac, .bool lg] 39) := ⟨_, rfl⟩
 rw [← hW1]
 have hb1 : W1.heap[w.heap.size]? = some (.cells #[.int .i64 9, .int .i64 d, .int .i64 a, .int .i64 b, .int .i64 fn, .int .i64 obj, .int .i64 off, .int .i64 size, .int .u32 num, .slice aa args.length ac, .bool lg] 39) := by rw [hW1]; exact heap_alloc_new w _
 have BD1 : Below w.heap.size w W1 := by rw [hW1]; exact below_alloc w _
 clear hW1
 refine wp_region_game (fun z => z = k.bx ∨ z = br ∨ z = w.heap.size) (by kernel_rfl) ?_
 obtain ⟨W2, hW2⟩ : ∃ W2 : World, W2 = W1.drew := ⟨_, rfl⟩
 first | rw [← hW2] | rw [show (⟨W1.heap, W1.tape, W1.drawn + 1, W1.os, W1.output⟩ : World) = W2 from hW2.symm]
 have HB2 : Hid (W2.heap[w.heap.size]? = some (.cells #[.int .i64 9, .int .i64 d, .int .i64 a, .int .i64 b, .int .i64 fn, .int .i64 obj, .int .i64 off, .int .i64 size, .int .u32 num, .slice aa args.length ac, .bool lg] 39)) := by rw [hW2]; exact hb1
 have BD : Below w.heap.size w W2 := by rw [hW2]; exact BD1.drew
 clear hW2 hb1 BD1
 have H := Lib.hid (H.out.grow BD)
 have HRd := Lib.hid (HRd.out.below BD)
 have HRo := Lib.hid (HRo.out.below BD)
 have c0 : W2.cell? ⟨k.bx, 0, none⟩ = _ := (BD.cell (p := ⟨k.bx, 0, none⟩) hlx).trans c0
 have c1 : W2.cell? ⟨k.bx, 1, none⟩ = _ := (BD.cell (p := ⟨k.bx, 1, none⟩) hlx).trans c1
 have yd : W2.cell? ⟨br, d, none⟩ = _ := (BD.cell (p := ⟨br, d, none⟩) e3).trans yd
 have yf : W2.frozen? ⟨br, d, none⟩ = false := (BD.frozen (p := ⟨br, d, none⟩) e3).trans yf
 have hlx : k.bx < W2.heap.size := H.out.lt
 have e3 : br < W2.heap.size := Nat.lt_of_lt_of_le e3 BD.size
 obtain ⟨b0, b1, b2, b3, b4, b5, b6, b7, b8, b9, b10, lb⟩ := cl11 HB2.out
 refine E_mob2s [0, 1, 2, 3, 4, 5, 6, 7, 8, 9, 10, 11, 12, 13, 14, 15, 16, 17] _ _ _ _ (by kernel_rfl) ?_
 simp only [List.map_cons, List.map_nil, List.getElem?_toArray, List.getElem?_cons_succ, List.getElem?_cons_zero, Option.getD_some, List.size_toArray, List.length_cons, List.length_nil, Nat.reduceAdd, Nat.reduceSub]
 repeat (go_big_quiet_step (fail))
 refine wpQuiet_nil ?_
 have HC := Lib.hid (joinB21_c gd k.T kd og k.T oc _ _ W2 HRd.out HRo.out (by rw [HLd.out, HLo.out]; exact Nat.le_refl _) (by rw [HLo.out]; exact hT))
 refine E_loud1 18 _ rfl (by kernel_rfl) ?_
 simp only [List.getElem_toArray, List.getElem_cons_succ, List.getElem_cons_zero]
 go_wp2_with fail
 refine HC.out.mono ?_
 rintro e w3 ⟨v, rfl, ho, hb⟩
 obtain ⟨q1, j1, rfl, hg, hgl, hgs⟩ := own_rowB ho (by rw [orL_len, HLd.out]; exact hT0)
 rw [orL_len, HLd.out] at hg ⊢
 have H := Lib.hid (H.out.grow hb)
 have HB2 := Lib.hid ((hb.block _ lb).trans HB2.out)
 have hkeep := Lib.hid (keepBel3 hb hlx e3 lb)
 clear b0 b1 b2 b3 b4 b5 b6 b7 b8 b9 b10
 have HRd := Lib.hid (HRd.out.below hb)
 have HRo := Lib.hid (HRo.out.below hb)
 have c0 : w3.cell? ⟨k.bx, 0, none⟩ = _ := (hb.cell (p := ⟨k.bx, 0, none⟩) hlx).trans c0
 have c1 : w3.cell? ⟨k.bx, 1, none⟩ = _ := (hb.cell (p := ⟨k.bx, 1, none⟩) hlx).trans c1
 have yd : w3.cell? ⟨br, d, none⟩ = _ := (hb.cell (p := ⟨br, d, none⟩) e3).trans yd
 have yf : w3.frozen? ⟨br, d, none⟩ = false := (hb.frozen (p := ⟨br, d, none⟩) e3).trans yf
 have hlx : k.bx < w3.heap.size := H.out.lt
 have e3 : br < w3.heap.size := Nat.lt_of_lt_of_le e3 hb.size
 obtain ⟨b0, b1, b2, b3, b4, b5, b6, b7, b8, b9, b10, lb⟩ := cl11 HB2.out
 have hG1 := Lib.hid hg
 clear ho hg HC
 unfold rowV
 go_wp2_with fail
 refine ⟨hkeep.out, ?_⟩
 clear hkeep
 try simp only [Act.put, List.setIfInBounds_toArray, List.set_cons_succ, List.set_cons_zero]
 refine E_mob2s [19] _ _ _ _ (by kernel_rfl) ?_
 simp only [List.map_cons, List.map_nil, List.getElem?_toArray, List.getElem?_cons_succ, List.getElem?_cons_zero, Option.getD_some, List.size_toArray, List.length_cons, List.length_nil, Nat.reduceAdd, Nat.reduceSub]
 repeat (go_big_quiet_step (fail))
 refine wpQuiet_nil ?_
 refine E_last 20 _ rfl (by kernel_rfl) ?_
 simp only [List.getElem_toArray, List.getElem_cons_succ, List.getElem_cons_zero]
 go_wp2_with fail
 refine E_done (by kernel_rfl) ?_ _
 have H4 := Lib.hid (H.out.setR Hvr.out hd hG1.out (by rw [orL_len, HLd.out]))
 have HB4 : Hid ((w3.setCell ⟨br, d, none⟩ (rowV q1 k.T j1)).heap[w.heap.size]? = _) := (Below.heap_setCell w3 ⟨br, d, none⟩ _ w.heap.size (by show w.heap.size ≠ br; omega)).trans HB2.out
 unfold rowV at H4 HB4
 generalize hW4 : w3.setCell ⟨br, d, none⟩ (.slice (some ⟨q1, 0, none⟩) k.T j1) = W4 at *
 have HSt : Hid (AlM w0 W4 (k.setR d q1 j1) (X1.pass (argC (args.take 0)))) := by
  rw [HX1.out]; exact H4.out
 have HBSt := Lib.hid HB4.out
 clear H H4 HX1 hW4 b0 b1 b2 b3 b4 b5 b6 b7 b8 b9 b10 c0 c1 yf yd HRd HRo HB2 HB4 Hvr
 obtain ⟨b0, b1, b2, b3, b4, b5, b6, b7, b8, b9, b10, lb4⟩ := cl11 HBSt.out
 go_wp2_with fail
 clear b0 b1 b2 b3 b4 b5 b6 b7 b8 b9 b10 lb4
 go_loopw [6] (fun i wr => ∃ j : Nat, j ≤ args.length ∧ i = .int .i64 (j : Int) ∧ Hid (∃ k', AlM w0 wr k' (X1.pass (argC (args.take j))) ∧ k'.bx = k.bx ∧ k'.vr = k.vr ∧ k'.T = k.T ∧ k'.n = k.n) ∧ Hid (wr.heap[w.heap.size]? = some (.cells #[.int .i64 9, .int .i64 d, .int .i64 a, .int .i64 b, .int .i64 fn, .int .i64 obj, .int .i64 off, .int .i64 size, .int .u32 num, .slice aa args.length ac, .bool lg] 39))) (fun i _ => args.length - (intOf i).toNat)
 case atStart => exact ⟨0, Nat.zero_le _, rfl, ⟨_, HSt.out, rfl, rfl, rfl, rfl⟩, HBSt⟩
 case round =>
  obtain ⟨j, hj, rfl, HX, HB⟩ := hrel
  obtain ⟨k', H, q1, q2, q3, q4⟩ := HX.out
  have HS1 := Lib.hid (fun r => argC_step X1 args j r)
  obtain ⟨bx', vr', rs', ro', T', n'⟩ := k'
  dsimp only at q1 q2 q3 q4
  subst q1 q2 q3 q4
  clear HX HSt HBSt
  by_cases hlt : j < args.length
  ·obtain ⟨r, hr1, hr2⟩ := HAR.out j hlt
   have HS2 := Lib.hid (HS1.out r hlt hr1)
   generalize X1.pass (argC (args.take j)) = X at *
   obtain ⟨br, cp, hvr, e1, e2, e3, -, e4, e5⟩ := H.at hr2
   have y := e4 r hr2
   obtain ⟨ba, bo, rfl, z⟩ := HAA.out j hlt
   rw [hr1] at z
   simp only [Nat.mul_one, Nat.add_zero] at z
   have lba := World.block_lt_of_cell? _ _ z
   have z : wr.cell? ⟨ba, bo + j, none⟩ = some (.int .i64 (r : Int)) := (H.below.cell (p := ⟨ba, bo + j, none⟩) lba).trans z
   have lba : ba < wr.heap.size := World.block_lt_of_cell? _ _ z
   have gj : decide ((j : Int) < (args.length : Int)) = true := decide_eq_true (by omega)
   have gj2 : decide (j < args.length) = true := decide_eq_true hlt
   have gr : decide ((r : Int) < (k.n : Int)) = true := decide_eq_true (by have : r < k.n := hr2; omega)
   have gr2 : decide (r < k.n) = true := decide_eq_true hr2
   have HRr := Lib.hid (H.row r hr2)
   have HLr : Hid ((X.regs.getD r []).length = k.T) := H.ok.get (some r) fun q e => by cases e; exact hr2
   have HRo := Lib.hid H.out
   have HLo := Lib.hid H.ok.out
   have hlx : k.bx < wr.heap.size := H.lt
   have c0 : wr.cell? ⟨k.bx, 0, none⟩ = some (.slice (some ⟨br, 0, none⟩) k.n cp) := by rw [cell_of_heap H.hv 0, ← hvr]; rfl
   have c1 : wr.cell? ⟨k.bx, 1, none⟩ = some (.slice (some ⟨ro'.1, 0, none⟩) k.T ro'.2) := by rw [cell_of_heap H.hv 1]; rfl
   have yf : wr.frozen? ⟨k.bx, 1, none⟩ = false := frozen_of_heap H.hv 1
   have H := Lib.hid H
   clear e4 e5 hvr
   unfold maxLen at e2
   unfold rowV at y
   dsimp only at y HRr HRo
   generalize rs'.getD r (0, 0) = Rr at *
   obtain ⟨gr', kr'⟩ := Rr
   obtain ⟨og, oc⟩ := ro'
   dsimp only at y HRr HRo c1
   obtain ⟨b0, b1, b2, b3, b4, b5, b6, b7, b8, b9, b10, lb⟩ := cl11 HB.out
   go_wp2_with fail
   refine wp_region_game (fun z => z = k.bx ∨ z = br ∨ z = w.heap.size ∨ z = ba) (by kernel_rfl) ?_
   obtain ⟨W2, hW2⟩ : ∃ W2 : World, W2 = wr.drew := ⟨_, rfl⟩
   first | rw [← hW2] | rw [show (⟨wr.heap, wr.tape, wr.drawn + 1, wr.os, wr.output⟩ : World) = W2 from hW2.symm]
   have BD : Below wr.heap.size wr W2 := by rw [hW2]; exact (Below.refl _ _).drew
   clear hW2
   have H := Lib.hid (H.out.grow BD)
   have HRr := Lib.hid (HRr.out.below BD)
   have HRo := Lib.hid (HRo.out.below BD)
   have HB := Lib.hid ((BD.block _ lb).trans HB.out)
   have c0 : W2.cell? ⟨k.bx, 0, none⟩ = _ := (BD.cell (p := ⟨k.bx, 0, none⟩) hlx).trans c0
   have c1 : W2.cell? ⟨k.bx, 1, none⟩ = _ := (BD.cell (p := ⟨k.bx, 1, none⟩) hlx).trans c1
   have y : W2.cell? ⟨br, r, none⟩ = _ := (BD.cell (p := ⟨br, r, none⟩) e3).trans y
   have z : W2.cell? ⟨ba, bo + j, none⟩ = _ := (BD.cell (p := ⟨ba, bo + j, none⟩) lba).trans z
   have yf : W2.frozen? ⟨k.bx, 1, none⟩ = false := (BD.frozen (p := ⟨k.bx, 1, none⟩) hlx).trans yf
   have hlx : k.bx < W2.heap.size := Nat.lt_of_lt_of_le hlx BD.size
   have e3 : br < W2.heap.size := Nat.lt_of_lt_of_le e3 BD.size
   have lba : ba < W2.heap.size := Nat.lt_of_lt_of_le lba BD.size
   clear b0 b1 b2 b3 b4 b5 b6 b7 b8 b9 b10
   obtain ⟨b0, b1, b2, b3, b4, b5, b6, b7, b8, b9, b10, lb⟩ := cl11 HB.out
   refine E_mob2s [0, 1, 2, 3, 4, 5, 6, 7, 8, 9, 10, 11, 12, 13, 14, 15] _ _ _ _ (by kernel_rfl) ?_
   simp only [List.map_cons, List.map_nil, List.getElem?_toArray, List.getElem?_cons_succ, List.getElem?_cons_zero, Option.getD_some, List.size_toArray, List.length_cons, List.length_nil, Nat.reduceAdd, Nat.reduceSub]
   repeat (go_big_quiet_step (fail))
   refine wpQuiet_nil ?_
   have HC := Lib.hid (joinB21_c og k.T oc gr' k.T kr' _ _ W2 HRo.out HRr.out (by rw [HLo.out, HLr.out]; exact Nat.le_refl _) (by rw [HLr.out]; exact hT))
   refine E_loud1 16 _ rfl (by kernel_rfl) ?_
   simp only [List.getElem_toArray, List.getElem_cons_succ, List.getElem_cons_zero]
   go_wp2_with fail
   refine HC.out.mono ?_
   rintro e w3 ⟨v, rfl, ho, hb⟩
   obtain ⟨q1, j1, rfl, hg, hgl, hgs⟩ := own_rowB ho (by rw [orL_len, HLo.out]; exact hT0)
   rw [orL_len, HLo.out] at hg ⊢
   have H := Lib.hid (H.out.grow hb)
   have HB := Lib.hid ((hb.block _ lb).trans HB.out)
   have hkeep := Lib.hid (keepBel4x hb hlx e3 lb lba)
   have yf : w3.frozen? ⟨k.bx, 1, none⟩ = false := (hb.frozen (p := ⟨k.bx, 1, none⟩) hlx).trans yf
   have c1 : w3.cell? ⟨k.bx, 1, none⟩ = _ := (hb.cell (p := ⟨k.bx, 1, none⟩) hlx).trans c1
   have hlx : k.bx < w3.heap.size := Nat.lt_of_lt_of_le hlx hb.size
   have hG := Lib.hid hg
   clear ho hg HC
   unfold rowV
   go_wp2_with fail
   refine ⟨hkeep.out, ?_⟩
   clear hkeep
   try simp only [Act.put, List.setIfInBounds_toArray, List.set_cons_succ, List.set_cons_zero]
   refine E_mob2s [17, 18] _ _ _ _ (by kernel_rfl) ?_
   simp only [List.map_cons, List.map_nil, List.getElem?_toArray, List.getElem?_cons_succ, List.getElem?_cons_zero, Option.getD_some, List.size_toArray, List.length_cons, List.length_nil, Nat.reduceAdd, Nat.reduceSub]
   repeat (go_big_quiet_step (fail))
   refine wpQuiet_nil ?_
   refine E_last 19 _ rfl (by kernel_rfl) ?_
   simp only [List.getElem_toArray, List.getElem_cons_succ, List.getElem_cons_zero]
   go_wp2_with fail
   refine E_done (by kernel_rfl) ?_ _
   have H4 := Lib.hid (H.out.setO hG.out (by rw [orL_len, HLo.out]))
   have HB4 : Hid ((w3.setCell ⟨k.bx, 1, none⟩ (rowV q1 k.T j1)).heap[w.heap.size]? = _) := (Below.heap_setCell w3 ⟨k.bx, 1, none⟩ _ w.heap.size (by have := hwx; show w.heap.size ≠ k.bx; omega)).trans HB.out
   unfold rowV at H4 HB4
   dsimp only at H4
   go_wp2_with fail
   go_roundw
   case rel => exact ⟨j + 1, by omega, by go_num, ⟨AlK.setO ⟨k.bx, k.vr, rs', (og, oc), k.T, k.n⟩ q1 j1, by rw [HS2.out]; exact H4.out, rfl, rfl, rfl, rfl⟩, HB4⟩
   case measure => simp [intOf]; omega
  ·obtain rfl : j = args.length := by omega
   obtain ⟨b0, b1, b2, b3, b4, b5, b6, b7, b8, b9, b10, lb⟩ := cl11 HB.out
   go_wp2_with fail
   go_end0
   rw [List.take_length] at H
   exact ⟨rfl, ⟨k.bx, k.vr, rs', ro', k.T, k.n⟩, H, rfl, rfl, rfl, rfl⟩
end Go.Proofs.Ytkhfddodmjnecaa
