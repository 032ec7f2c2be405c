/-
 law 22: marked, walked.
-/
import Derived.Test.YtmcddolkpcgddaaZHazardMarks48
import Derived.Test.YtmcddolkpcgddaaZHazardMarks13
import Derived.Test.YtmcddolkpcgddaaZHazardMarks14
import Derived.Test.YtmcddolkpcgddaaZHazardMarks06
set_option linter.all false
namespace Go.Proofs.Ytmcddolkpcgddaa
open Go.ChangeShapes Go.WideShapes Go.ChangeAt Go.RowKit
set_option maxHeartbeats 8000000
set_option maxRecDepth 100000
set_option linter.unusedVariables false
theorem markP_ne {p : Pr} {b k n : Nat} (hb : b < p.blks.length) (hn : n < p.blks.length) : (markP p b k).blks.take (n + 1) = (markP p b k).blks.take n ++ [if n = b then markB (p.blks.getD b default) k else p.blks.getD n default] := by
 rw [take_snoc22 (by unfold markP; rw [List.length_set]; exact hn), markP_get p b k n hb]
theorem marked_c (p : Pr) (V : Value) (b k : Nat) (w : World) (hP : PrV w V p) (hb : b < p.blks.length) (hk : k < (p.blks.getD b default).ins.length) (hlen : p.blks.length ≤ 1000) (hil : ∀ n, n < p.blks.length → (p.blks.getD n default).ins.length ≤ 1000) :
  Calls Try.prog 19 #[V, .int .i64 (b : Int), .int .i64 (k : Int)] w fun e w' => ∃ v, e = .returned v ∧ PrV w' v (markP p b k) ∧ Below w.heap.size w w' := by
 obtain ⟨nm, vo, vb, rfl, hvo, hvb⟩ := hP
 have HVO := Lib.hid hvo
 have HVB := Lib.hid hvb
 have HIL := Lib.hid hil
 obtain ⟨ao, co, rfl, -⟩ := hvo
 obtain ⟨ab, cb, rfl, hcb1, hcb2, -⟩ := hvb
 unfold maxLen at hcb2
 clear hil
 obtain ⟨W0, hW0⟩ : ∃ W0, W0 = allocs w [.cells #[.string nm, .bool p.void, .int .i64 p.params, .int .i64 p.regs, .slice ao p.objs.length co, .slice ab p.blks.length cb] 32, .cells #[.string ⟨#[]⟩, .bool false, .int .i64 0, .int .i64 0, .slice none 0 0, .slice none 0 0] 32, .cells #[.string nm, .bool p.void, .int .i64 p.params, .int .i64 p.regs, .slice ao p.objs.length co, .slice none 0 0] 32] := ⟨_, rfl⟩
 have B0 : Hid (Below w.heap.size w W0) := by rw [hW0]; exact allocs_below _ _
 have H0 : Hid (W0.heap[w.heap.size]? = some (.cells #[.string nm, .bool p.void, .int .i64 p.params, .int .i64 p.regs, .slice ao p.objs.length co, .slice ab p.blks.length cb] 32 (0, 0))) := by rw [hW0]; exact allocs_heap _ w 0 (by simp)
 have H1 : Hid (W0.heap[w.heap.size + 1]? = some (.cells #[.string ⟨#[]⟩, .bool false, .int .i64 0, .int .i64 0, .slice none 0 0, .slice none 0 0] 32 (0, 0))) := by rw [hW0]; exact allocs_heap _ w 1 (by simp)
 have H2 : Hid (W0.heap[w.heap.size + 1 + 1]? = some (.cells #[.string nm, .bool p.void, .int .i64 p.params, .int .i64 p.regs, .slice ao p.objs.length co, .slice none 0 0] 32 (0, 0))) := by rw [hW0]; exact allocs_heap _ w 2 (by simp)
 unfold allocs at hW0
 simp only [List.foldl_cons, List.foldl_nil] at hW0
 have HW0 := Lib.hid hW0.symm
 clear hW0
 go_enter Try.func19, Try.ntmps19
 go_wp2_with fail
 try rw [HW0.out]
 have M0 : Hid (MkM w w.heap.size (w.heap.size + 1) (w.heap.size + 1 + 1) nm p (.slice ao p.objs.length co) (.slice ab p.blks.length cb) ((markP p b k).blks.take 0) (.slice none 0 0) [] W0) :=
  ⟨rfl, ⟨rfl, .inl ⟨rfl, rfl⟩⟩, fun x hx => (by cases hx), H0.out, H1.out, H2.out, ⟨by omega, by omega⟩, by omega, B0.out⟩
 clear HW0 H0 H1 H2 B0
 go_loopw [8] (fun i wr => ∃ (n : Nat) (vW : Value) (L : List (Bk × Value)), n ≤ p.blks.length ∧ i = .int .i64 (n : Int) ∧ Hid (MkM w w.heap.size (w.heap.size + 1) (w.heap.size + 1 + 1) nm p (.slice ao p.objs.length co) (.slice ab p.blks.length cb) ((markP p b k).blks.take n) vW L wr) ∧ Hid (n ≤ b → ∀ x ∈ L, RdIns w x.2 x.1.ins)) (fun i _ => p.blks.length - (intOf i).toNat)
 case atStart => exact ⟨0, _, _, Nat.zero_le _, rfl, M0, fun _ x hx => (by cases hx)⟩
 case round =>
  clear M0
  obtain ⟨n, vW, L, hn, rfl, HM, HA⟩ := hrel
  obtain ⟨x0, x1, x2, x3, x4, x5, lx⟩ := cl6 HM.out.h3
  by_cases hlt : n < p.blks.length
  ·have g1 : decide (n < p.blks.length) = true := decide_eq_true hlt
   have g2 : decide ((n : Int) < (p.blks.length : Int)) = true := decide_eq_true (by omega)
   have hE : Ext w wr := Ext.below HM.out.bl
   obtain ⟨bb, ob, vi, hab, hvi, c0, c1, c2, c3, c4⟩ := (RdBks.at HVB.out).2 n hlt
   subst hab
   have HC00 := Lib.hid c0
   replace c0 := hE _ _ c0
   replace c1 := hE _ _ c1
   replace c2 := hE _ _ c2
   replace c3 := hE _ _ c3
   replace c4 := hE _ _ c4
   have HVI := Lib.hid hvi
   obtain ⟨ai, ci, rfl, hi1, hi2, -⟩ := hvi
   unfold maxLen at hi2
   have HST := Lib.hid (markP_ne hb hlt (k := k))
   have hil := HIL.out n hlt
   have HLL : Hid (L.length ≤ 1000) := by
    have h := congrArg List.length HM.out.is
    rw [List.length_map, List.length_take] at h
    show _ ≤ _
    omega
   obtain ⟨aW, cW, rfl⟩ := row_form HM.out.own
   have lwr : w.heap.size ≤ wr.heap.size := HM.out.bl.size
   by_cases hnb : n = b
   ·have hKb : p.blks.getD b default = p.blks.getD n default := by rw [hnb]
    rw [if_pos hnb, hKb] at HST
    have hk' := hk
    rw [hKb] at hk'
    have e1 : decide ((n : Int) = (b : Int)) = true := decide_eq_true (by omega)
    have e2 : ((n : Int) == (b : Int)) = true := by simp; omega
    have HAR := Lib.hid (HA.out (by omega))
    have HC0 := Lib.hid HC00.out
    have HNB := Lib.hid hnb
    clear HA hKb hk HC00 hnb
    generalize p.blks.getD n default = K at *
    go_wp2_with fail
    obtain ⟨W8, hW8⟩ : ∃ W8, W8 = wr.alloc (.cells #[.slice none 0 0, .int .i64 K.fin, .int .i64 K.a, .int .i64 K.to, .int .i64 K.els] 51) := ⟨_, rfl⟩
    have B8 : Hid (Below wr.heap.size wr W8) := by rw [hW8]; exact below_alloc wr _
    have H8 := Lib.hid (heap_of_alloc wr _ _ hW8)
    rw [← hW8]
    have hw9 : ∀ e, (Value.slice aW L.length cW).ownBlock = some e → e < wr.heap.size := fun e he => (World.ownsRow.lt HM.out.own e he).2
    obtain ⟨b9, hb9⟩ : ∃ b9, b9 = wr.heap.size := ⟨_, rfl⟩
    rw [← hb9] at H8 hw9 lwr ⊢
    have HI0 : Hid (InM w w.heap.size (w.heap.size + 1) (w.heap.size + 1 + 1) b9 nm p (.slice ao p.objs.length co) (.slice (some ⟨bb, ob, none⟩) p.blks.length cb) ((markP p b k).blks.take n) (.slice aW L.length cW) L (.slice none 0 0) [] (mkL22 K.ins k 0) K.fin K.a K.to K.els W8) :=
     ⟨HM.out.below B8.out, HAR.out, by rw [mkL22_0]; rfl, fun y hy => (by cases hy), ⟨rfl, .inl ⟨rfl, rfl⟩⟩, H8.out, lwr, fun e => Nat.lt_irrefl _ (hw9 _ e)⟩
    clear hW8 hb9 hw9 HAR HM x0 x1 x2 x3 x4 x5 lx c0 c1 c2 c3 c4 hE B8 H8
    clear wr
    go_loopw [10] (fun i wr => ∃ (j : Nat) (vI : Value) (LI : List (In × Value)), j ≤ K.ins.length ∧ i = .int .i64 (j : Int) ∧ Hid (InM w w.heap.size (w.heap.size + 1) (w.heap.size + 1 + 1) b9 nm p (.slice ao p.objs.length co) (.slice (some ⟨bb, ob, none⟩) p.blks.length cb) ((markP p b k).blks.take n) (.slice aW L.length cW) L vI LI (mkL22 K.ins k j) K.fin K.a K.to K.els wr)) (fun i _ => K.ins.length - (intOf i).toNat)
    case atStart => exact ⟨0, _, _, Nat.zero_le _, rfl, HI0⟩
    case round =>
     clear HI0
     obtain ⟨j, vI, LI, hj, rfl, HI⟩ := hrel
     have HLJ : Hid (LI.length ≤ 1001) := by
      have h := congrArg List.length HI.out.is
      rw [List.length_map] at h
      have := mkL22_len K.ins k j
      show _ ≤ _
      omega
     obtain ⟨x0, x1, x2, x3, x4, x5, lx⟩ := cl6 HI.out.ou.h3
     have c0 := Ext.below HI.out.ou.bl _ _ HC0.out
     by_cases hlj : j < K.ins.length
     ·have k1 : decide (j < K.ins.length) = true := decide_eq_true hlj
      have k2 : decide ((j : Int) < (K.ins.length : Int)) = true := decide_eq_true (by omega)
      obtain ⟨bi, oi, vx, hai, hbw, hva, d0, d1, d2, d3, d4, d5, d6, d7, d8, d9, d10⟩ := (RdIns.at HVI.out).2 j hlj
      subst hai
      obtain ⟨aa, ca, rfl, -⟩ := id hva
      have HVA := Lib.hid hva
      have HEE := Lib.hid (show _ ∧ _ ∧ _ ∧ _ ∧ _ ∧ _ ∧ _ ∧ _ ∧ _ ∧ _ ∧ _ from ⟨d0, d1, d2, d3, d4, d5, d6, d7, d8, d9, d10⟩)
      clear d0 d1 d2 d3 d4 d5 d6 d7 d8 d9 d10 hva
      by_cases hjk : j = k
      ·have k3 : decide ((j : Int) = (k : Int)) = true := decide_eq_true (by omega)
       have k4 : ((j : Int) == (k : Int)) = true := by simp; omega
       have HLQ : Hid (mkL22 K.ins k (j + 1) = (mkL22 K.ins k j ++ [markI]) ++ [K.ins.getD j default]) := by
        show _ = _
        rw [hjk]; exact mkL22_eq hk'
       clear hjk
       generalize K.ins.getD j default = Y at *
       obtain ⟨avI, cvI, rfl⟩ := row_form HI.out.own
       obtain ⟨y0, y1, y2, y3, y4, ly⟩ := cl5 HI.out.h9
       have IA := Lib.hid (HI.out.below (below_alloc wr (.cells #[.int .i64 12, .int .i64 (-1), .int .i64 (-1), .int .i64 (-1), .int .i64 0, .int .i64 0, .int .i64 0, .int .i64 0, .int .u32 0, .slice none 0 0, .bool false] 58)))
       have HCX : Hid (∀ jj u, (inCells (markI, .slice none 0 0))[jj]? = some u → (wr.alloc (.cells #[.int .i64 12, .int .i64 (-1), .int .i64 (-1), .int .i64 (-1), .int .i64 0, .int .i64 0, .int .i64 0, .int .i64 0, .int .u32 0, .slice none 0 0, .bool false] 58)).cell? ⟨wr.heap.size, jj, none⟩ = some u) := cell_newX wr (inCells (markI, .slice none 0 0)) 58 _ rfl
       have hlj1 : LI.length ≤ 1001 := HLJ.out
       go_wp2_with (at_builtin; refine appG 49 58 info_in Try.underlying49 rfl (by decide) (by decide) (inCells (markI, .slice none 0 0)) rfl (fun u hu => by simp only [inCells, List.mem_cons, List.not_mem_nil, or_false] at hu; rcases hu with rfl | rfl | rfl | rfl | rfl | rfl | rfl | rfl | rfl | rfl | rfl <;> rfl) IA.out.own rfl rfl rfl rfl HCX.out (by omega) IA.out.ou.bl.size ?_; intro v10 w10 O10 G10 D10; obtain ⟨a10, c10, rfl⟩ := row_form O10; obtain ⟨J1, J2⟩ := IA.out.app (RdI.nil _) O10 G10; have hy10 := J2.trans IA.out.h9; have q0 := cell_of_heap hy10 0; have qf := frozen_of_heap hy10 0; have lq := (Array.getElem?_eq_some_iff.1 hy10).1; have HJ0 := Lib.hid J1; simp only [List.getElem?_toArray, List.getElem?_cons_zero] at q0)
       have hl : LI.length + 1 = (LI ++ [(markI, Value.slice none 0 0)]).length := by simp
       have HI1 : Hid (InM w w.heap.size (w.heap.size + 1) (w.heap.size + 1 + 1) b9 nm p (.slice ao p.objs.length co) (.slice (some ⟨bb, ob, none⟩) p.blks.length cb) ((markP p b k).blks.take n) (.slice aW L.length cW) L (.slice a10 (LI ++ [(markI, Value.slice none 0 0)]).length c10) (LI ++ [(markI, Value.slice none 0 0)]) (mkL22 K.ins k j ++ [markI]) K.fin K.a K.to K.els (w10.setCell ⟨b9, 0, none⟩ (.slice a10 (LI.length + 1) c10))) := by
        show InM _ _ _ _ _ _ _ _ _ _ _ _ _ _ _ _ _ _ _ _
        rw [← hl]; exact HJ0.out
       have HLI : Hid ((LI ++ [(markI, Value.slice none 0 0)]).length ≤ 2000) := by
        show _ ≤ _
        rw [← hl]; omega
       clear IA HCX O10 G10 D10 J1 J2 hy10 q0 qf lq HJ0 x0 x1 x2 x3 x4 x5 lx c0 y0 y1 y2 y3 y4 ly HI HLJ hlj1
       rw [hl] at HI1 ⊢
       clear hl
       generalize (LI ++ [(markI, Value.slice none 0 0)]) = LI at *
       generalize mkL22 K.ins k j ++ [markI] = li at *
       generalize a10 = avI at *
       generalize c10 = cvI at *
       generalize w10.setCell ⟨b9, 0, none⟩ (.slice avI LI.length cvI) = wq at *
       have HI := Lib.hid HI1.out
       clear HI1
       have hLI : LI.length ≤ 2000 := HLI.out
       obtain ⟨x0, x1, x2, x3, x4, x5, lx⟩ := cl6 HI.out.ou.h3
       obtain ⟨y0, y1, y2, y3, y4, ly⟩ := cl5 HI.out.h9
       have hE := Ext.below HI.out.ou.bl
       have c0 := hE _ _ HC0.out
       obtain ⟨e0, e1, e2, e3, e4, e5, e6, e7, e8, e9, e10⟩ := HEE.out
       replace e0 := hE _ _ e0
       replace e1 := hE _ _ e1
       replace e2 := hE _ _ e2
       replace e3 := hE _ _ e3
       replace e4 := hE _ _ e4
       replace e5 := hE _ _ e5
       replace e6 := hE _ _ e6
       replace e7 := hE _ _ e7
       replace e8 := hE _ _ e8
       replace e9 := hE _ _ e9
       replace e10 := hE _ _ e10
       clear hE
       have lib : bi < w.heap.size := World.block_lt_of_cell? _ _ HEE.out.1
       have lbb : bb < w.heap.size := World.block_lt_of_cell? _ _ HC0.out
       refine wp_region_game (fun z => z < w.heap.size ∨ z = b9 ∨ z = w.heap.size) (by kernel_rfl) ?_
       show wpE _ _ _ _ _ _ _ wq.drew
       refine E_mob2s [0, 1, 2, 3, 4, 5, 6, 7, 8, 9, 10] _ _ _ _ (by kernel_rfl) ?_
       simp only [List.map_cons, List.map_nil, List.getElem?_toArray, List.getElem?_cons_succ, List.getElem?_cons_zero, Option.getD_some, List.size_toArray, List.length_cons, List.length_nil, Nat.reduceAdd, Nat.reduceSub]
       repeat (go_big_quiet_step (fail))
       refine wpQuiet_nil ?_
       clear x0 x1 x2 x3 x4 x5 lx y0 y1 y2 y3 y4 ly e0 e1 e2 e3 e4 e5 e6 e7 e8 e9 e10 lib lbb c0
       have I9 := Lib.hid (HI.out.below (Below.refl _ _).drew)
       clear HI
       generalize wq.drew = wd at *
       refine E_loud1 11 _ rfl (by kernel_rfl) ?_
       simp only [List.getElem_toArray, List.getElem_cons_succ, List.getElem_cons_zero]
       go_wp2_with fail
       have IA := Lib.hid (I9.out.below (below_alloc wd (.cells #[.int .i64 Y.op, .int .i64 Y.d, .int .i64 Y.a, .int .i64 Y.b, .int .i64 Y.fn, .int .i64 Y.obj, .int .i64 Y.off, .int .i64 Y.size, .int .u32 Y.num, .slice aa Y.args.length ca, .bool Y.log] 58)))
       have HCX : Hid (∀ jj u, (inCells (Y, .slice aa Y.args.length ca))[jj]? = some u → (wd.alloc (.cells #[.int .i64 Y.op, .int .i64 Y.d, .int .i64 Y.a, .int .i64 Y.b, .int .i64 Y.fn, .int .i64 Y.obj, .int .i64 Y.off, .int .i64 Y.size, .int .u32 Y.num, .slice aa Y.args.length ca, .bool Y.log] 58)).cell? ⟨wd.heap.size, jj, none⟩ = some u) := cell_newX wd (inCells (Y, .slice aa Y.args.length ca)) 58 _ rfl
       refine ⟨keep_below (below_alloc wd (.cells #[.int .i64 Y.op, .int .i64 Y.d, .int .i64 Y.a, .int .i64 Y.b, .int .i64 Y.fn, .int .i64 Y.obj, .int .i64 Y.off, .int .i64 Y.size, .int .u32 Y.num, .slice aa Y.args.length ca, .bool Y.log] 58)) (fun z hz => (I9.out.apart z hz).1), ?_⟩
       generalize wd.alloc (.cells #[.int .i64 Y.op, .int .i64 Y.d, .int .i64 Y.a, .int .i64 Y.b, .int .i64 Y.fn, .int .i64 Y.obj, .int .i64 Y.off, .int .i64 Y.size, .int .u32 Y.num, .slice aa Y.args.length ca, .bool Y.log] 58) = wC at *
       generalize wd.heap.size = gC at *
       clear I9
       refine E_loud1 12 _ rfl (by kernel_rfl) ?_
       simp only [List.getElem_toArray, List.getElem_cons_succ, List.getElem_cons_zero]
       refine appG 49 58 info_in Try.underlying49 rfl (by decide) (by decide) (inCells (Y, .slice aa Y.args.length ca)) rfl (fun u hu => by simp only [inCells, List.mem_cons, List.not_mem_nil, or_false] at hu; rcases hu with rfl | rfl | rfl | rfl | rfl | rfl | rfl | rfl | rfl | rfl | rfl <;> rfl) IA.out.own rfl rfl rfl rfl HCX.out (by omega) IA.out.ou.bl.size ?_
       intro v10 w10 O10 G10 D10
       obtain ⟨a10, c10, rfl⟩ := row_form O10
       have J4 := IA.out.apart
       obtain ⟨J1, J2⟩ := IA.out.app HVA.out O10 G10
       refine ⟨fun bb oo hbb => grown_cell G10 (J4 bb hbb).1 (J4 bb hbb).2, ?_⟩
       have hy10 := J2.trans IA.out.h9
       have q0 := cell_of_heap hy10 0
       have qf := frozen_of_heap hy10 0
       have lq := (Array.getElem?_eq_some_iff.1 hy10).1
       have HJ1 := Lib.hid J1
       clear J1 J2 J4 O10 G10 D10 hy10 IA HCX
       simp only [List.getElem?_toArray, List.getElem?_cons_zero] at q0
       simp only [Act.put, List.setIfInBounds_toArray, List.set_cons_succ, List.set_cons_zero]
       refine E_mob2s [13] _ _ _ _ (by kernel_rfl) ?_
       simp only [List.map_cons, List.map_nil, List.getElem?_toArray, List.getElem?_cons_succ, List.getElem?_cons_zero, Option.getD_some, List.size_toArray, List.length_cons, List.length_nil, Nat.reduceAdd, Nat.reduceSub]
       repeat (go_big_quiet_step (fail))
       refine wpQuiet_nil ?_
       refine E_last 14 _ rfl (by kernel_rfl) ?_
       simp only [List.getElem_toArray, List.getElem_cons_succ, List.getElem_cons_zero]
       go_wp2_with fail
       refine E_done (by kernel_rfl) ?_ _
       clear q0 qf lq
       go_wp2_with fail
       go_roundw
       case rel => exact ⟨j + 1, _, _, hlj, by go_num, by rw [HLQ.out]; exact HJ1⟩
       case measure => simp [intOf]; omega
      ·have k3 : decide ((j : Int) = (k : Int)) = false := decide_eq_false (by omega)
       have k4 : ((j : Int) == (k : Int)) = false := by simp; omega
       have HLQ : Hid (mkL22 K.ins k (j + 1) = mkL22 K.ins k j ++ [K.ins.getD j default]) := mkL22_ne hlj hjk
       have HLI : Hid (LI.length ≤ 2000) := Nat.le_trans HLJ.out (by decide)
       clear hjk
       generalize K.ins.getD j default = Y at *
       obtain ⟨avI, cvI, rfl⟩ := row_form HI.out.own
       generalize mkL22 K.ins k j = li at *
       go_wp2_with fail
       clear x0 x1 x2 x3 x4 x5 lx c0
       rename World => wq
       have hLI : LI.length ≤ 2000 := HLI.out
       obtain ⟨x0, x1, x2, x3, x4, x5, lx⟩ := cl6 HI.out.ou.h3
       obtain ⟨y0, y1, y2, y3, y4, ly⟩ := cl5 HI.out.h9
       have hE := Ext.below HI.out.ou.bl
       have c0 := hE _ _ HC0.out
       obtain ⟨e0, e1, e2, e3, e4, e5, e6, e7, e8, e9, e10⟩ := HEE.out
       replace e0 := hE _ _ e0
       replace e1 := hE _ _ e1
       replace e2 := hE _ _ e2
       replace e3 := hE _ _ e3
       replace e4 := hE _ _ e4
       replace e5 := hE _ _ e5
       replace e6 := hE _ _ e6
       replace e7 := hE _ _ e7
       replace e8 := hE _ _ e8
       replace e9 := hE _ _ e9
       replace e10 := hE _ _ e10
       clear hE
       have lib : bi < w.heap.size := World.block_lt_of_cell? _ _ HEE.out.1
       have lbb : bb < w.heap.size := World.block_lt_of_cell? _ _ HC0.out
       refine wp_region_game (fun z => z < w.heap.size ∨ z = b9 ∨ z = w.heap.size) (by kernel_rfl) ?_
       show wpE _ _ _ _ _ _ _ wq.drew
       refine E_mob2s [0, 1, 2, 3, 4, 5, 6, 7, 8, 9, 10] _ _ _ _ (by kernel_rfl) ?_
       simp only [List.map_cons, List.map_nil, List.getElem?_toArray, List.getElem?_cons_succ, List.getElem?_cons_zero, Option.getD_some, List.size_toArray, List.length_cons, List.length_nil, Nat.reduceAdd, Nat.reduceSub]
       repeat (go_big_quiet_step (fail))
       refine wpQuiet_nil ?_
       clear x0 x1 x2 x3 x4 x5 lx y0 y1 y2 y3 y4 ly e0 e1 e2 e3 e4 e5 e6 e7 e8 e9 e10 lib lbb c0
       have I9 := Lib.hid (HI.out.below (Below.refl _ _).drew)
       clear HI
       generalize wq.drew = wd at *
       refine E_loud1 11 _ rfl (by kernel_rfl) ?_
       simp only [List.getElem_toArray, List.getElem_cons_succ, List.getElem_cons_zero]
       go_wp2_with fail
       have IA := Lib.hid (I9.out.below (below_alloc wd (.cells #[.int .i64 Y.op, .int .i64 Y.d, .int .i64 Y.a, .int .i64 Y.b, .int .i64 Y.fn, .int .i64 Y.obj, .int .i64 Y.off, .int .i64 Y.size, .int .u32 Y.num, .slice aa Y.args.length ca, .bool Y.log] 58)))
       have HCX : Hid (∀ jj u, (inCells (Y, .slice aa Y.args.length ca))[jj]? = some u → (wd.alloc (.cells #[.int .i64 Y.op, .int .i64 Y.d, .int .i64 Y.a, .int .i64 Y.b, .int .i64 Y.fn, .int .i64 Y.obj, .int .i64 Y.off, .int .i64 Y.size, .int .u32 Y.num, .slice aa Y.args.length ca, .bool Y.log] 58)).cell? ⟨wd.heap.size, jj, none⟩ = some u) := cell_newX wd (inCells (Y, .slice aa Y.args.length ca)) 58 _ rfl
       refine ⟨keep_below (below_alloc wd (.cells #[.int .i64 Y.op, .int .i64 Y.d, .int .i64 Y.a, .int .i64 Y.b, .int .i64 Y.fn, .int .i64 Y.obj, .int .i64 Y.off, .int .i64 Y.size, .int .u32 Y.num, .slice aa Y.args.length ca, .bool Y.log] 58)) (fun z hz => (I9.out.apart z hz).1), ?_⟩
       generalize wd.alloc (.cells #[.int .i64 Y.op, .int .i64 Y.d, .int .i64 Y.a, .int .i64 Y.b, .int .i64 Y.fn, .int .i64 Y.obj, .int .i64 Y.off, .int .i64 Y.size, .int .u32 Y.num, .slice aa Y.args.length ca, .bool Y.log] 58) = wC at *
       generalize wd.heap.size = gC at *
       clear I9
       refine E_loud1 12 _ rfl (by kernel_rfl) ?_
       simp only [List.getElem_toArray, List.getElem_cons_succ, List.getElem_cons_zero]
       refine appG 49 58 info_in Try.underlying49 rfl (by decide) (by decide) (inCells (Y, .slice aa Y.args.length ca)) rfl (fun u hu => by simp only [inCells, List.mem_cons, List.not_mem_nil, or_false] at hu; rcases hu with rfl | rfl | rfl | rfl | rfl | rfl | rfl | rfl | rfl | rfl | rfl <;> rfl) IA.out.own rfl rfl rfl rfl HCX.out (by omega) IA.out.ou.bl.size ?_
       intro v10 w10 O10 G10 D10
       obtain ⟨a10, c10, rfl⟩ := row_form O10
       have J4 := IA.out.apart
       obtain ⟨J1, J2⟩ := IA.out.app HVA.out O10 G10
       refine ⟨fun bb oo hbb => grown_cell G10 (J4 bb hbb).1 (J4 bb hbb).2, ?_⟩
       have hy10 := J2.trans IA.out.h9
       have q0 := cell_of_heap hy10 0
       have qf := frozen_of_heap hy10 0
       have lq := (Array.getElem?_eq_some_iff.1 hy10).1
       have HJ1 := Lib.hid J1
       clear J1 J2 J4 O10 G10 D10 hy10 IA HCX
       simp only [List.getElem?_toArray, List.getElem?_cons_zero] at q0
       simp only [Act.put, List.setIfInBounds_toArray, List.set_cons_succ, List.set_cons_zero]
       refine E_mob2s [13] _ _ _ _ (by kernel_rfl) ?_
       simp only [List.map_cons, List.map_nil, List.getElem?_toArray, List.getElem?_cons_succ, List.getElem?_cons_zero, Option.getD_some, List.size_toArray, List.length_cons, List.length_nil, Nat.reduceAdd, Nat.reduceSub]
       repeat (go_big_quiet_step (fail))
       refine wpQuiet_nil ?_
       refine E_last 14 _ rfl (by kernel_rfl) ?_
       simp only [List.getElem_toArray, List.getElem_cons_succ, List.getElem_cons_zero]
       go_wp2_with fail
       refine E_done (by kernel_rfl) ?_ _
       clear q0 qf lq
       go_wp2_with fail
       go_roundw
       case rel => exact ⟨j + 1, _, _, hlj, by go_num, by rw [HLQ.out]; exact HJ1⟩
       case measure => simp [intOf]; omega
     ·obtain rfl : j = K.ins.length := by omega
      rw [mkL22_all hk'] at HI
      obtain ⟨avI, cvI, rfl⟩ := row_form HI.out.own
      obtain ⟨y0, y1, y2, y3, y4, ly⟩ := cl5 HI.out.h9
      obtain ⟨z0, z1, z2, z3, z4, z5, lz⟩ := cl6 HI.out.ou.h7
      have hll : L.length ≤ 1000 := HLL.out
      have HKR : Hid (KrI22 w (wr.alloc (.cells #[.slice avI LI.length cvI, .int .i64 K.fin, .int .i64 K.a, .int .i64 K.to, .int .i64 K.els] 51)) (markB K k, .slice avI LI.length cvI)) := by
       have h : KrI22 w wr (markB K k, .slice avI LI.length cvI) := ⟨LI, HI.out.is, HI.out.args, ownsRow_base HI.out.own (Nat.zero_le _)⟩
       exact h.below (below_alloc wr (.cells #[.slice avI LI.length cvI, .int .i64 K.fin, .int .i64 K.a, .int .i64 K.to, .int .i64 K.els] 51))
      have M9 := Lib.hid (HI.out.ou.below (below_alloc wr (.cells #[.slice avI LI.length cvI, .int .i64 K.fin, .int .i64 K.a, .int .i64 K.to, .int .i64 K.els] 51)))
      have HCX : Hid (∀ jj u, ([.slice avI LI.length cvI, .int .i64 K.fin, .int .i64 K.a, .int .i64 K.to, .int .i64 K.els] : List Value)[jj]? = some u → (wr.alloc (.cells #[.slice avI LI.length cvI, .int .i64 K.fin, .int .i64 K.a, .int .i64 K.to, .int .i64 K.els] 51)).cell? ⟨wr.heap.size, jj, none⟩ = some u) := cell_newX wr [.slice avI LI.length cvI, .int .i64 K.fin, .int .i64 K.a, .int .i64 K.to, .int .i64 K.els] 51 _ rfl
      go_wp2_with (at_builtin; refine appG 30 51 info_bk Try.underlying30 rfl (by decide) (by decide) [.slice avI LI.length cvI, .int .i64 K.fin, .int .i64 K.a, .int .i64 K.to, .int .i64 K.els] rfl (fun u hu => by simp only [List.mem_cons, List.not_mem_nil, or_false] at hu; rcases hu with rfl | rfl | rfl | rfl | rfl <;> rfl) M9.out.own rfl rfl rfl rfl HCX.out (by omega) M9.out.bl.size ?_; intro v10 w10 O10 G10 D10; obtain ⟨N1, N2⟩ := M9.out.app (x := markB K k) (vI := .slice avI LI.length cvI) (.inr HKR.out) O10 G10; have N3 := Lib.hid N1; have h7 := N2.trans M9.out.h7; obtain ⟨a10, c10, rfl⟩ := row_form O10; have q0 := cell_of_heap h7 5; have qf := frozen_of_heap h7 5; have lq := (Array.getElem?_eq_some_iff.1 h7).1; simp only [List.getElem?_toArray, List.getElem?_cons_zero, List.getElem?_cons_succ] at q0)
      have HNB2 := HNB.out
      go_roundw
      case rel => exact ⟨n + 1, _, _, hlt, by go_num, by rw [HST.out]; exact N3, fun h => absurd h (by omega)⟩
      case measure => simp [intOf]; omega
   ·rw [if_neg hnb] at HST
    have e1 : decide ((n : Int) = (b : Int)) = false := decide_eq_false (by omega)
    have e2 : ((n : Int) == (b : Int)) = false := by simp; omega
    generalize p.blks.getD n default = K at *
    go_upto_region 15 with (fail)
    obtain ⟨W8, hW8⟩ : ∃ W8, W8 = wr.alloc (.cells #[.slice ai K.ins.length ci, .int .i64 K.fin, .int .i64 K.a, .int .i64 K.to, .int .i64 K.els] 51) := ⟨_, rfl⟩
    have B8 : Hid (Below wr.heap.size wr W8) := by rw [hW8]; exact below_alloc wr _
    have H8 := Lib.hid (heap_of_alloc wr _ _ hW8)
    have M8 := Lib.hid (HM.out.below B8.out)
    rw [← hW8]
    clear hW8 HM x0 x1 x2 x3 x4 x5 lx c0 c1 c2 c3 c4 hE
    obtain ⟨y0, y1, y2, y3, y4, ly⟩ := cl5 H8.out
    obtain ⟨z0, z1, z2, z3, z4, z5, lz⟩ := cl6 M8.out.h7
    have HCX : Hid (∀ jj u, ([.slice ai K.ins.length ci, .int .i64 K.fin, .int .i64 K.a, .int .i64 K.to, .int .i64 K.els] : List Value)[jj]? = some u → (W8.alloc (.cells #[.slice ai K.ins.length ci, .int .i64 K.fin, .int .i64 K.a, .int .i64 K.to, .int .i64 K.els] 51)).cell? ⟨W8.heap.size, jj, none⟩ = some u) := cell_newX W8 [.slice ai K.ins.length ci, .int .i64 K.fin, .int .i64 K.a, .int .i64 K.to, .int .i64 K.els] 51 _ rfl
    have M9 := Lib.hid (M8.out.below (below_alloc W8 (.cells #[.slice ai K.ins.length ci, .int .i64 K.fin, .int .i64 K.a, .int .i64 K.to, .int .i64 K.els] 51)))
    have hll : L.length ≤ 1000 := HLL.out
    go_wp2_with (at_builtin; refine appG 30 51 info_bk Try.underlying30 rfl (by decide) (by decide) [.slice ai K.ins.length ci, .int .i64 K.fin, .int .i64 K.a, .int .i64 K.to, .int .i64 K.els] rfl (fun u hu => by simp only [List.mem_cons, List.not_mem_nil, or_false] at hu; rcases hu with rfl | rfl | rfl | rfl | rfl <;> rfl) M9.out.own rfl rfl rfl rfl HCX.out (by omega) M9.out.bl.size ?_; intro v10 w10 O10 G10 D10; obtain ⟨N1, N2⟩ := M9.out.app (x := K) (vI := .slice ai K.ins.length ci) (.inl HVI.out) O10 G10; have N3 := Lib.hid N1; have h7 := N2.trans M9.out.h7; obtain ⟨a10, c10, rfl⟩ := row_form O10; have q0 := cell_of_heap h7 5; have qf := frozen_of_heap h7 5; have lq := (Array.getElem?_eq_some_iff.1 h7).1; simp only [List.getElem?_toArray, List.getElem?_cons_zero, List.getElem?_cons_succ] at q0)
    have HAN : Hid (n + 1 ≤ b → ∀ x ∈ L ++ [(K, .slice ai K.ins.length ci)], RdIns w x.2 x.1.ins) := fun h x hx => by
     rcases List.mem_append.1 hx with hx | hx
     ·exact HA.out (by omega) x hx
     ·simp only [List.mem_cons, List.not_mem_nil, or_false] at hx
      rw [hx]; exact HVI.out
    clear N1 N2 O10 G10 D10 h7 M8 M9 HCX y0 y1 y2 y3 y4 ly z0 z1 z2 z3 z4 z5 lz H8 B8 HA
    go_wp2_with fail
    go_roundw
    case rel => exact ⟨n + 1, _, _, hlt, by go_num, by rw [HST.out]; exact N3, HAN⟩
    case measure => simp [intOf]; omega
  ·obtain rfl : n = p.blks.length := by omega
   obtain ⟨z0, z1, z2, z3, z4, z5, lz⟩ := cl6 HM.out.h7
   obtain ⟨r0, r1, r2, r3, r4, r5, lr⟩ := cl6 HM.out.h6
   have f0 := frozen_of_heap HM.out.h6 0
   have f1 := frozen_of_heap HM.out.h6 1
   have f2 := frozen_of_heap HM.out.h6 2
   have f3 := frozen_of_heap HM.out.h6 3
   have f4 := frozen_of_heap HM.out.h6 4
   have f5 := frozen_of_heap HM.out.h6 5
   obtain ⟨aW, cW, rfl⟩ := row_form HM.out.own
   go_wp2_with fail
   refine bodyPost_ret (v := .agg #[.string nm, .bool p.void, .int .i64 p.params, .int .i64 p.regs, .slice ao p.objs.length co, .slice aW L.length cW]) (by simp [results, Try.results19, go_sem, r0, r1, r2, r3, r4, r5]) rfl ?_
   have hbu : ∀ (u0 u1 u2 u3 u4 u5 : Value), But (w.heap.size + 1) wr ((((((wr.setCell ⟨w.heap.size + 1, 0, none⟩ u0).setCell ⟨w.heap.size + 1, 1, none⟩ u1).setCell ⟨w.heap.size + 1, 2, none⟩ u2).setCell ⟨w.heap.size + 1, 3, none⟩ u3).setCell ⟨w.heap.size + 1, 4, none⟩ u4).setCell ⟨w.heap.size + 1, 5, none⟩ u5) := fun _ _ _ _ _ _ =>
    (((((But.setCell _ _ _ _).trans (But.setCell _ _ _ _)).trans (But.setCell _ _ _ _)).trans (But.setCell _ _ _ _)).trans (But.setCell _ _ _ _)).trans (But.setCell _ _ _ _)
   have hMM := HM.out
   have e : (markP p b k).blks.take p.blks.length = (markP p b k).blks := List.take_of_length_le (by unfold markP; rw [List.length_set]; exact Nat.le_refl _)
   have hl : L.length = p.blks.length := by
    have h := congrArg List.length HM.out.is
    rw [List.length_map, List.length_take] at h
    have : (markP p b k).blks.length = p.blks.length := by unfold markP; rw [List.length_set]
    omega
   rw [e] at hMM
   obtain ⟨hr1, hr2⟩ := hMM.rd6 (hbu (.string nm) (.bool p.void) (.int .i64 p.params) (.int .i64 p.regs) (.slice ao p.objs.length co) (.slice aW L.length cW)) (by omega)
   exact ⟨_, rfl, ⟨nm, _, _, rfl, HVO.out.ext (Ext.below hr2), hr1⟩, hr2⟩
end Go.Proofs.Ytmcddolkpcgddaa
