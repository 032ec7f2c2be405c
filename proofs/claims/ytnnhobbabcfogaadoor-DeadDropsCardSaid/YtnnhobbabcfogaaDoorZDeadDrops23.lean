/-
 Contract of dead's Stores.
-/
import Derived.Test.YtnnhobbabcfogaaDoorZDeadDrops19
import Derived.Test.YtnnhobbabcfogaaDoorZDeadDrops22
set_option linter.all false
namespace Go.Proofs.YtnnhobbabcfogaaDoor
open Go.ChangeShapes Go.WideShapes Go.ChangeAt Go.RowKit
set_option maxHeartbeats 4000000
set_option maxRecDepth 100000
set_option linter.unusedVariables false

/-- a table under way: rows below n are as they shall be, row n is r, all others are empty -/
def rowT (N : Nat) (F : Nat → List Int) (n : Nat) (r : List Int) : List (List Int) := (List.range N).map fun t => if t < n then F t else if t = n then r else []
theorem rowT_len (N : Nat) (F : Nat → List Int) (n : Nat) (r : List Int) : (rowT N F n r).length = N := by simp [rowT]
theorem rowT_get (N : Nat) (F : Nat → List Int) (n : Nat) (r : List Int) {t : Nat} (h : t < N) : (rowT N F n r).getD t [] = if t < n then F t else if t = n then r else [] := by
 simp [rowT, List.getD, h]
theorem rowT_at (N : Nat) (F : Nat → List Int) (n : Nat) (r : List Int) (h : n < N) : (rowT N F n r).getD n [] = r := by
 rw [rowT_get _ _ _ _ h, if_neg (Nat.lt_irrefl n), if_pos rfl]
theorem rowT_0 (N : Nat) (F : Nat → List Int) : rowT N F 0 [] = List.replicate N [] := by
 apply List.ext_getElem
 ·simp [rowT]
 ·intro i h1 h2
  simp [rowT]
theorem rowT_set (N : Nat) (F : Nat → List Int) (n : Nat) (r r' : List Int) : (rowT N F n r).set n r' = rowT N F n r' := by
 apply List.ext_getElem
 ·simp [rowT]
 ·intro i h1 h2
  rw [List.getElem_set]
  simp only [rowT, List.getElem_map, List.getElem_range]
  by_cases e : n = i
  ·subst e; simp
  ·rw [if_neg e]; simp [Ne.symm e]
theorem rowT_next (N : Nat) (F : Nat → List Int) (n : Nat) : rowT N F n (F n) = rowT N F (n + 1) [] := by
 unfold rowT
 refine List.map_congr_left fun t _ => ?_
 by_cases h : t < n
 ·rw [if_pos h, if_pos (by omega)]
 ·by_cases e : t = n
  ·subst e; simp
  ·rw [if_neg h, if_neg e, if_neg (by omega)]; simp
theorem rowT_all (N : Nat) (F : Nat → List Int) (r : List Int) : rowT N F N r = (List.range N).map F := by
 unfold rowT
 refine List.map_congr_left fun t ht => ?_
 rw [if_pos (List.mem_range.1 ht)]
theorem RdIns.zero {w : World} {a : Option Addr} {n c : Nat} {L : List In} (h1 : L.length = 0) (h2 : n = 0) (h3 : c ≤ maxLen) : RdIns w (.slice a n c) L := ⟨a, c, by rw [h1, h2], by omega, h3, fun i hi => by omega⟩
theorem RdIns.drop {w : World} {b o n c : Nat} {L : List In} (h : RdIns w (.slice (some ⟨b, o, none⟩) n c) L) {k : Nat} (hk : k ≤ L.length) : RdIns w (.slice (some ⟨b, o + k * 11, none⟩) (n - k) (c - k)) (L.drop k) := by
 obtain ⟨a', c', e, h1, h2, h3⟩ := h
 simp only [Value.slice.injEq] at e
 obtain ⟨rfl, rfl, rfl⟩ := e
 refine ⟨_, _, by rw [List.length_drop], by rw [List.length_drop]; omega, by omega, fun i hi => ?_⟩
 rw [List.length_drop] at hi
 obtain ⟨b', o', e, hc⟩ := h3 (k + i) (by omega)
 simp only [Option.some.injEq, Addr.mk.injEq, and_true] at e
 obtain ⟨rfl, rfl⟩ := e
 refine ⟨b, o + k * 11, rfl, ?_⟩
 show InC w (fun j => w.cell? ⟨b, o + k * 11 + i * 11 + j, none⟩) ((L.drop k).getD i default)
 have e2 : (L.drop k).getD i default = L.getD (k + i) default := by simp [List.getD]
 rw [e2]
 have e3 : ∀ j, o + k * 11 + i * 11 + j = o + (k + i) * 11 + j := fun j => by omega
 simp only [e3]
 exact hc
/-- a block that none of a table's rows lies in -/
def FarB (n : Nat) (vs : List Value) (bx : Nat) : Prop := ∀ i, i < n → (vs.getD i undef).ownBlock ≠ some bx
theorem FarB.push {n : Nat} {vs : List Value} {bx : Nat} {w : World} {v' : Value} {j : Nat} (h : FarB n vs bx) (hl : vs.length = n) (hj : j < n) (hb : bx < w.heap.size) (hat : v'.ownBlock = (vs.getD j undef).ownBlock ∨ v'.ownBlock = some w.heap.size) : FarB n (vs.set j v') bx := fun k hk => by
 rw [getD_setV _ _ _ _ (by omega)]
 by_cases e2 : k = j
 ·rw [if_pos e2]
  rcases hat with e3 | e3
  ·rw [e3]; exact h j hj
  ·rw [e3]; intro e4; simp only [Option.some.injEq] at e4; omega
 ·rw [if_neg e2]; exact h k hk
theorem FarB.keep {n : Nat} {vs : List Value} {bx gP : Nat} {w w' : World} {v' : Value} {j : Nat} (h : FarB n vs bx) (hj : j < n) (hb : bx < w.heap.size) (hg : w.grownBy w' (vs.getD j undef).ownBlock) (hgp : bx ≠ gP) : (w'.setCell ⟨gP, j, none⟩ v').heap[bx]? = w.heap[bx]? :=
 (Below.heap_setCell w' ⟨gP, j, none⟩ v' bx hgp).trans (hg.block bx hb (fun e => h j hj e.symm))
theorem stores_c (p : Pr) (V : Value) (w : World) (hP : PrV w V p) (hlen : p.blks.length ≤ 1000) (hin : ∀ j, j < p.blks.length → (p.blks.getD j default).ins.length ≤ 1000) :
  Calls Tryd.prog 75 #[V] w fun e w' => ∃ gP B vs, e = .returned (.slice (some ⟨gP, 0, none⟩) p.blks.length p.blks.length) ∧ PT w w' gP B p.blks.length vs ((List.range p.blks.length).map (storeL p)) := by
 have HIN := Lib.hid hin
 clear hin
 obtain ⟨nm, vo, vb, rfl, -, hvb⟩ := hP
 have hvb' := hvb
 obtain ⟨a, c, rfl, hc1, hc2, -⟩ := hvb'
 unfold maxLen at hc2
 have HVB := Lib.hid hvb
 clear hvb
 have hmk := run_make_row' (P := Tryd.prog) 83 43 (.slice none 0 0) 24 Tryd.underlying83 info_sl rfl .i64 .i64 p.blks.length (by omega) (by omega)
 go_enter Tryd.func75, Tryd.ntmps75
 go_wp2_with fail
 clear hmk
 obtain ⟨W0, hW0⟩ : ∃ W0, W0 = w.alloc (.cells #[.string nm, .bool p.void, .int .i64 p.params, .int .i64 p.regs, vo, .slice a p.blks.length c] 37) := ⟨_, rfl⟩
 have H0 : Hid (W0.heap[w.heap.size]? = some (.cells #[.string nm, .bool p.void, .int .i64 p.params, .int .i64 p.regs, vo, .slice a p.blks.length c] 37)) := by rw [hW0]; exact heap_alloc_new w _
 have hz0 : W0.heap.size = w.heap.size + 1 := by rw [hW0]; simp
 have HR : Hid (Below w.heap.size w W0) := by rw [hW0]; exact below_alloc w _
 have M0 : Hid (PT W0 (W0.alloc (.cells (madeCells #[.slice none 0 0] p.blks.length) 43)) W0.heap.size (W0.heap.size + 1) p.blks.length (List.replicate p.blks.length (.slice none 0 0)) (rowT p.blks.length (storeL p) 0 [])) := by
  refine ⟨below_alloc _ _, madeS W0 _ (by unfold maxLen; omega), fun j hj => ?_, fun i j hi hj hij => .inl ?_, Nat.le_refl _, Nat.lt_succ_self _, by simp, rowT_len _ _ _ _⟩
  ·rw [rowT_0]
   have e1 : (List.replicate p.blks.length (Value.slice none 0 0)).getD j undef = .slice none 0 0 := by simp [List.getD, List.getElem?_replicate, hj]
   have e2 : (List.replicate p.blks.length ([] : List Int)).getD j [] = [] := by simp only [List.getD, List.getElem?_replicate]; split <;> rfl
   rw [e1, e2]
   exact OwnI.nil _ _
  ·have e1 : (List.replicate p.blks.length (Value.slice none 0 0)).getD i undef = .slice none 0 0 := by simp [List.getD, List.getElem?_replicate, hi]
   rw [e1]; rfl
 rw [show w.heap.size + 1 = W0.heap.size from hz0.symm, ← hW0]
 have hz0a : W0.heap.size ≤ w.heap.size + 1 := Nat.le_of_eq hz0
 have hz0b : w.heap.size + 1 ≤ W0.heap.size := Nat.le_of_eq hz0.symm
 clear hW0 hz0
 generalize W0.alloc (.cells (madeCells #[.slice none 0 0] p.blks.length) 43) = W1 at M0 ⊢
 have lz0 := (Array.getElem?_eq_some_iff.1 H0.out).1
 go_loopw [15] (fun i wr => ∃ (k : Nat) (vs : List Value), k ≤ p.blks.length ∧ i = .int .i64 (k : Int) ∧ Hid (PT W0 wr W0.heap.size (W0.heap.size + 1) p.blks.length vs (rowT p.blks.length (storeL p) k []))) (fun i _ => p.blks.length - (intOf i).toNat)
 case atStart => exact ⟨0, _, Nat.zero_le _, rfl, M0⟩
 case round =>
  clear M0
  obtain ⟨k, vs, hk, rfl, M⟩ := hrel
  by_cases hlk : k < p.blks.length
  ·have hE : Ext w wr := (Ext.below HR.out).trans (Ext.below M.out.below)
   obtain ⟨bb, ob, vi, rfl, hvi, c0, c1, c2, c3, c4⟩ := (RdBks.at HVB.out).2 k hlk
   replace c0 := hE _ _ c0
   replace c1 := hE _ _ c1
   replace c2 := hE _ _ c2
   replace c3 := hE _ _ c3
   replace c4 := hE _ _ c4
   have HV := Lib.hid hvi
   have hvi' := hvi
   obtain ⟨ai, ci, rfl, hi1, hi2, -⟩ := hvi'
   unfold maxLen at hi2
   clear hvi
   have hLk := HIN.out k hlk
   have HSL : Hid (storeL p k = posU (storeI (p.blks.getD k default).ins) (p.blks.getD k default).ins.length) := rfl
   have hbw := M.out.Bw
   have lw0 : w.heap.size < wr.heap.size := by omega
   have hgp : W0.heap.size < wr.heap.size := by omega
   generalize p.blks.getD k default = K at *
   go_wp2_with fail
   obtain ⟨W2, hW2⟩ : ∃ W2, W2 = wr.alloc (.cells #[.slice ai K.ins.length ci, .int .i64 K.fin, .int .i64 K.a, .int .i64 K.to, .int .i64 K.els] 40) := ⟨_, rfl⟩
   have H2 : Hid (W2.heap[wr.heap.size]? = some (.cells #[.slice ai K.ins.length ci, .int .i64 K.fin, .int .i64 K.a, .int .i64 K.to, .int .i64 K.els] 40)) := by rw [hW2]; exact heap_alloc_new wr _
   have M2 : Hid (PT W0 W2 W0.heap.size (W0.heap.size + 1) p.blks.length vs (rowT p.blks.length (storeL p) k [])) := by rw [hW2]; exact M.out.grow (below_alloc _ _)
   have F2 : Hid (FarB p.blks.length vs wr.heap.size) := fun i hi e => by have := (World.ownsRow.lt (M.out.row i hi) _ e).2; omega
   have l2 := (Array.getElem?_eq_some_iff.1 H2.out).1
   have hE2 : Hid (Ext w W2) := by rw [hW2]; exact hE.trans (Ext.alloc _ _)
   rw [← hW2]
   have HBX := Lib.hid (show wr.heap.size ≠ W0.heap.size by omega)
   clear hW2 c0 c1 c2 c3 c4 M hE
   have hgp2 : W0.heap.size < wr.heap.size := hgp
   generalize wr.heap.size = bx at *
   have hkb : rowT p.blks.length (storeL p) k [] = rowT p.blks.length (storeL p) k (posU (storeI K.ins) 0) := rfl
   rw [hkb] at M2
   clear hkb hE2
   generalize K.ins = L at *
   go_loopw [23] (fun i wr => ∃ (j : Nat) (vs : List Value), j ≤ L.length ∧ i = .int .i64 (j : Int) ∧ Hid (PT W0 wr W0.heap.size (W0.heap.size + 1) p.blks.length vs (rowT p.blks.length (storeL p) k (posU (storeI L) j))) ∧ Hid (FarB p.blks.length vs bx) ∧
    Hid (wr.heap[bx]? = some (.cells #[.slice ai L.length ci, .int .i64 K.fin, .int .i64 K.a, .int .i64 K.to, .int .i64 K.els] 40))) (fun i _ => L.length - (intOf i).toNat)
   case atStart => exact ⟨0, vs, Nat.zero_le _, rfl, M2, F2, H2⟩
   case round =>
    clear M2 F2 H2 l2 vs
    obtain ⟨j, vs, hj, rfl, M, F, H2⟩ := hrel
    by_cases hlj : j < L.length
    ·have hE : Ext w wr := (Ext.below HR.out).trans (Ext.below M.out.below)
     obtain ⟨bi, oi, vx, rfl, hbw, hva, d0, d1, d2, d3, d4, d5, d6, d7, d8, d9, d10⟩ := (RdIns.at HV.out).2 j hlj
     obtain ⟨sa, sc, rfl, -⟩ := hva
     replace d0 := hE _ _ d0
     replace d1 := hE _ _ d1
     replace d2 := hE _ _ d2
     replace d3 := hE _ _ d3
     replace d4 := hE _ _ d4
     replace d5 := hE _ _ d5
     replace d6 := hE _ _ d6
     replace d7 := hE _ _ d7
     replace d8 := hE _ _ d8
     replace d9 := hE _ _ d9
     replace d10 := hE _ _ d10
     have HY := Lib.hid ((HV.out.drop (show j + 1 ≤ L.length from hlj)).ext hE)
     have HDn : Hid ((L.drop (j + 1)).length = L.length - (j + 1)) := List.length_drop
     have HDL : Hid ((L.drop (j + 1)).length ≤ 100000) := by show _ ≤ _; rw [List.length_drop]; omega
     have HS : Hid (storeI L j = ((L.getD j default).op == 6 && (!(L.getD j default).log && hiddenF (L.getD j default) (L.drop (j + 1))))) := rfl
     have HNO := Lib.hid (@posU_no (storeI L) j)
     have HYE := Lib.hid (@posU_yes (storeI L) j)
     have hjl := posU_le (storeI L) j
     obtain ⟨q0, q1, q2, q3, q4, lb⟩ := cl5 H2.out
     generalize L.getD j default = y at *
     generalize L.drop (j + 1) = D at *
     have hgpr : W0.heap.size < wr.heap.size := by have := M.out.Bw; omega
     obtain ⟨W3, hW3⟩ : ∃ W3, W3 = wr.alloc (.cells #[.int .i64 y.op, .int .i64 y.d, .int .i64 y.a, .int .i64 y.b, .int .i64 y.fn, .int .i64 y.obj, .int .i64 y.off, .int .i64 y.size, .int .u32 y.num, .slice sa y.args.length sc, .bool y.log] 45) := ⟨_, rfl⟩
     have B3 : Hid (Below wr.heap.size wr W3) := by rw [hW3]; exact below_alloc wr _
     have HW3 := Lib.hid hW3
     clear hW3 hE
     cases h1 : (y.op == 6)
     ·rw [h1] at HS
      have hs0 : storeI L j = false := by rw [HS.out]; rfl
      have HP := Lib.hid (HNO.out hs0)
      clear hs0
      go_wp2_with fail
      go_quiet (fail)
      go_wp2_with fail
      go_roundw
      case rel => exact ⟨j + 1, vs, by omega, by go_num, by rw [HP.out]; exact M.out.grow (drewN_b (below_alloc _ _) _), F, ((below_alloc wr _).block _ lb).trans H2.out⟩
      case measure => simp [intOf]; omega
     ·cases h2 : y.log
      ·rw [h1, h2] at HS
       go_wp2_with fail
       rw [h2] at HW3
       rw [← HW3.out]
       have H3 : Hid (W3.heap[wr.heap.size]? = some (.cells #[.int .i64 y.op, .int .i64 y.d, .int .i64 y.a, .int .i64 y.b, .int .i64 y.fn, .int .i64 y.obj, .int .i64 y.off, .int .i64 y.size, .int .u32 y.num, .slice sa y.args.length sc, .bool false] 45)) := by rw [HW3.out]; exact heap_alloc_new wr _
       have HY3 := Lib.hid (HY.out.ext (Ext.below B3.out))
       clear d0 d1 d2 d3 d4 d5 d6 d7 d8 d9 d10
       clear q0 q1 q2 q3 q4 HW3 HY
       obtain ⟨d0, d1, d2, d3, d4, d5, d6, d7, d8, d9, d10, l3⟩ := cl11 H3.out
       obtain ⟨q0, q1, q2, q3, q4, -⟩ := cl5 ((B3.out.block _ lb).trans H2.out)
       refine wp_region_junk (fun _ => True) (by kernel_rfl) ?_
       refine J_mobs [0, 1, 2, 3, 4, 5, 6, 7, 8, 9, 10, 11, 12, 13, 14] _ _ _ _ (by kernel_rfl) ?_
       simp only [List.map_cons, List.map_nil, List.getElem?_toArray, List.getElem?_cons_succ, List.getElem?_cons_zero, Option.getD_some, List.size_toArray, List.length_cons, List.length_nil, Nat.reduceAdd, Nat.reduceSub]
       repeat (go_big_quiet_step (fail))
       refine wpQuiet_nil ?_
       refine J_call 15 _ (.bool (hiddenF y D)) rfl (by kernel_rfl) rfl ?_ ?_
       all_goals simp only [List.getElem_toArray, List.getElem_cons_succ, List.getElem_cons_zero]
       ·intro wk hk
        by_cases hq : ci = j + 1
        ·have HK := Lib.hid (hidden_c y (.slice sa y.args.length sc) (some ⟨bi, oi, none⟩) (L.length - (j + 1)) 0 D wk (RdIns.zero (by have := HDn.out; omega) (by omega) (Nat.zero_le _)) HDL.out)
         unfold aggI at HK
         rw [h2] at HK
         go_wp2_with fail
         refine HK.out.mono ?_
         rintro e wz ⟨rfl, hb⟩
         go_wp2_with fail
         exact ⟨rfl, hb⟩
        ·have HK := Lib.hid (hidden_c y (.slice sa y.args.length sc) _ _ _ D wk (HY3.out.keep hk) HDL.out)
         unfold aggI at HK
         rw [h2] at HK
         go_wp2_with fail
         refine HK.out.mono ?_
         rintro e wz ⟨rfl, hb⟩
         go_wp2_with fail
         exact ⟨rfl, hb⟩
       simp only [Act.put, List.setIfInBounds_toArray, List.set_cons_succ, List.set_cons_zero]
       refine J_mobs [16] _ _ _ _ (by kernel_rfl) ?_
       simp only [List.map_cons, List.map_nil, List.getElem?_toArray, List.getElem?_cons_succ, List.getElem?_cons_zero, Option.getD_some, List.size_toArray, List.length_cons, List.length_nil, Nat.reduceAdd, Nat.reduceSub]
       repeat (go_big_quiet_step (fail))
       refine wpQuiet_nil ?_
       refine J_done (by kernel_rfl) (fun wj hj => ?_) _
       have Bj : Hid (Below wr.heap.size wr wj) := B3.out.trans (hj.mono B3.out.size)
       have M := Lib.hid (M.out.grow Bj.out)
       have H2 := Lib.hid ((Bj.out.block _ lb).trans H2.out)
       have lb : bx < wj.heap.size := (Array.getElem?_eq_some_iff.1 H2.out).1
       clear d0 d1 d2 d3 d4 d5 d6 d7 d8 d9 d10
       clear q0 q1 q2 q3 q4 hj B3 H3 HY3 l3
       cases hh : hiddenF y D
       ·rw [hh] at HS
        have hs0 : storeI L j = false := by rw [HS.out]; rfl
        have HP := Lib.hid (HNO.out hs0)
        clear hs0 hh
        go_wp2_with fail
        go_roundw
        case rel => exact ⟨j + 1, vs, by omega, by go_num, by rw [HP.out]; exact M.out, F, H2⟩
        case measure => simp [intOf]; omega
       ·rw [hh] at HS
        have hs0 : storeI L j = true := by rw [HS.out]; rfl
        have HP := Lib.hid (HYE.out hs0)
        clear hs0 hh HS HNO HYE h1 h2
        have hcell := M.out.cell hlk
        have hrow := M.out.row k hlk
        have hpush := M.out.grow (below_alloc wj (.cells #[.int .i64 (j : Int)] 3))
        have HPu := Lib.hid hpush
        rw [rowT_at _ _ _ _ hlk] at hrow
        obtain ⟨av, cv, hv⟩ := row_form hrow
        have hv' := Lib.hid hv
        rw [hv] at hcell
        have HRow : Hid ((wj.alloc (.cells #[.int .i64 (j : Int)] 3)).ownsRow (W0.heap.size + 1) 3 1 (.slice av (posU (storeI L) j).length cv) (posU (storeI L) j).length ((posU (storeI L) j).map (Value.int .i64))) := by
         have := World.ownsRow.alloc hrow (.cells #[.int .i64 (j : Int)] 3)
         rw [hv] at this
         exact this
        have HCX : Hid ((wj.alloc (.cells #[.int .i64 (j : Int)] 3)).cell? ⟨wj.heap.size, 0, none⟩ = some (.int .i64 (j : Int))) := cell_of_heap (heap_alloc_new wj _) 0
        have hgp : W0.heap.size < wj.heap.size := by have := M.out.Bw; omega
        have HBW : Hid (W0.heap.size + 1 ≤ (wj.alloc (.cells #[.int .i64 (j : Int)] 3)).heap.size) := by show _ ≤ _; simp; omega
        have HLN : Hid ((posU (storeI L) j).length ≤ 1000000000) := by show _ ≤ _; omega
        have H2a := Lib.hid (((below_alloc wj (.cells #[.int .i64 (j : Int)] 3)).block _ lb).trans H2.out)
        have lba : bx < (wj.alloc (.cells #[.int .i64 (j : Int)] 3)).heap.size := (Array.getElem?_eq_some_iff.1 H2a.out).1
        have HPR := Lib.hid (rowT_at p.blks.length (storeL p) k (posU (storeI L) j) hlk)
        have HST := Lib.hid (rowT_set p.blks.length (storeL p) k (posU (storeI L) j) (posU (storeI L) j ++ [(j : Int)]))
        clear hrow hpush hv M
        generalize posU (storeI L) j = lr at *
        go_wp2_with (at_builtin; refine appI (n := (j : Int)) HRow.out rfl rfl rfl rfl HCX.out HLN.out HBW.out ?_; intro v3 w3 h3 hg3 ha3; rw [← hv'.out] at hg3 ha3; have M3 := Lib.hid (HPu.out.push hlk hg3 (by rw [HPR.out]; exact h3) ha3); have F3 := Lib.hid (F.out.push HPu.out.vlen hlk lba ha3); have H3 := Lib.hid ((F.out.keep (v' := v3) hlk lba hg3 HBX.out).trans H2a.out); have qn : (vs.getD k undef).ownBlock ≠ some W0.heap.size := (fun e => Nat.lt_irrefl _ (World.ownsRow.lt (HPu.out.row k hlk) _ e).1); have hgp3 : W0.heap.size < w3.heap.size := Nat.lt_of_lt_of_le HBW.out hg3.size; have qz : w3.frozen? ⟨W0.heap.size, k, none⟩ = false := (grown_frozen hg3 HBW.out qn).trans (HPu.out.tab.frozenAt k); have qc : w3.cell? ⟨W0.heap.size, k, none⟩ = some (.slice av lr.length cv) := (grown_cell hg3 HBW.out qn).trans ((HPu.out.cell hlk).trans (by rw [hv'.out])); obtain ⟨a3, c3, rfl⟩ := row_form h3; clear h3 hg3 ha3 qn)
        go_roundw
        case rel => exact ⟨j + 1, _, by omega, by go_num, by rw [HP.out, ← HST.out]; have h := M3.out; rw [HPR.out] at h; exact h, F3, H3⟩
        case measure => simp [intOf]; omega
      ·rw [h1, h2] at HS
       have hs0 : storeI L j = false := by rw [HS.out]; rfl
       have HP := Lib.hid (HNO.out hs0)
       clear hs0
       go_wp2_with fail
       go_quiet (fail)
       go_wp2_with fail
       go_roundw
       case rel => exact ⟨j + 1, vs, by omega, by go_num, by rw [HP.out]; exact M.out.grow (drewN_b (below_alloc _ _) _), F, ((below_alloc wr _).block _ lb).trans H2.out⟩
       case measure => simp [intOf]; omega
    ·obtain rfl : j = L.length := by omega
     have HNX := Lib.hid (rowT_next p.blks.length (storeL p) k)
     rw [HSL.out] at HNX
     clear H2
     go_wp2_with fail
     go_roundw
     case rel => exact ⟨k + 1, vs, by omega, by go_num, by rw [← HNX.out]; exact M.out⟩
     case measure => simp [intOf]; omega
  ·obtain rfl : k = p.blks.length := by omega
   go_wp2_with fail
   go_ret
   have h := M.out
   rw [rowT_all] at h
   exact ⟨_, _, vs, rfl, ⟨HR.out.trans (h.below.mono HR.out.size), h.tab, h.row, h.ne, Nat.le_trans HR.out.size h.g0, h.gB, h.Bw, h.len⟩⟩
end Go.Proofs.YtnnhobbabcfogaaDoor
