/-
  How many blocks that are reached lead to each: the walk.; Blocks taken in: the plain run and rows of blocks whose instructions are new.
-/
import Derived.Test.YtnnhobbabcfogaaDoorZShapeThreads33
import Derived.Test.YtnnhobbabcfogaaDoorZShapeThreads34
import Derived.Test.YtnnhobbabcfogaaDoorZShapeThreads04

set_option linter.all false
namespace Go.Proofs.YtnnhobbabcfogaaDoor
open Go.ChangeShapes Go.WideShapes Go.ChangeAt Go.RowKit Go.Maps
set_option maxHeartbeats 4000000
set_option linter.unusedVariables false
set_option maxRecDepth 100000

def cntR (r : List Bool) (l : List Int) : Nat := (l.filter fun x => r.getD x.toNat false).length
theorem cntR_le (r : List Bool) (l : List Int) : cntR r l ≤ l.length := List.length_filter_le _ _
theorem cntR_snoc (r : List Bool) (l : List Int) (j : Nat) (hj : j < l.length) : cntR r (l.take (j + 1)) = cntR r (l.take j) + (if r.getD (l.getD j 0).toNat false = true then 1 else 0) := by
  unfold cntR
  rw [List.take_succ_eq_append_getElem hj, List.filter_append, List.length_append]
  have e : l.getD j 0 = l[j] := by simp [List.getD, hj]
  rw [e]
  cases h : r.getD l[j].toNat false
  · rw [List.filter_cons, h]; rfl
  · rw [List.filter_cons, h]; rfl
def rowsP (p : Pr) (t : Nat) : List Int := (prT p p.blks.length 0).getD t []
theorem rowsP_eq (p : Pr) (t : Nat) (ht : t < p.blks.length) : rowsP p t = predsU p t p.blks.length := by
  unfold rowsP
  rw [prT_get _ _ _ _ ht]
  unfold prR
  simp [hasL]
theorem rowsP_mem {p : Pr} {t : Nat} (ht : t < p.blks.length) {x : Int} (hx : x ∈ rowsP p t) : ∃ i : Nat, i < p.blks.length ∧ x = (i : Int) := by
  rw [rowsP_eq p t ht] at hx
  unfold predsU at hx
  obtain ⟨i, hi, rfl⟩ := List.mem_map.1 hx
  exact ⟨i, List.mem_range.1 (List.mem_filter.1 hi).1, rfl⟩
theorem rowsP_len {p : Pr} {t : Nat} (ht : t < p.blks.length) : (rowsP p t).length ≤ p.blks.length := by
  rw [rowsP_eq p t ht]; exact predsU_le _ _ _
/-- how many lead to the first k blocks, and c to the next one -/
def outL (p : Pr) (r : List Bool) (k c : Nat) : List Int := (List.range p.blks.length).map fun t => if t < k then (cntR r (rowsP p t) : Int) else if t = k then (c : Int) else 0
def ldP (p : Pr) : List Int := (List.range p.blks.length).map fun t => (cntR (reachP p) (rowsP p t) : Int)
theorem outL_len (p : Pr) (r : List Bool) (k c : Nat) : (outL p r k c).length = p.blks.length := by simp [outL]
theorem outL_0 (p : Pr) (r : List Bool) : outL p r 0 0 = List.replicate p.blks.length 0 := by
  apply List.ext_getElem (by simp [outL])
  intro i h1 h2
  simp [outL]
theorem outL_set (p : Pr) (r : List Bool) (k c d : Nat) (hk : k < p.blks.length) : outL p r k d = (outL p r k c).set k (d : Int) := by
  apply List.ext_getElem (by simp [outL])
  intro i h1 h2
  simp only [outL, List.getElem_map, List.getElem_range, List.getElem_set]
  by_cases e : k = i
  · subst e; simp
  · rw [if_neg e]
    by_cases h : i < k
    · rw [if_pos h, if_pos h]
    · rw [if_neg h, if_neg h, if_neg (fun e2 => e e2.symm), if_neg (fun e2 => e e2.symm)]
theorem outL_next (p : Pr) (r : List Bool) (k : Nat) : outL p r k (cntR r (rowsP p k)) = outL p r (k + 1) 0 := by
  unfold outL
  refine List.map_congr_left fun t _ => ?_
  by_cases h : t < k
  · rw [if_pos h, if_pos (by omega)]
  · rw [if_neg h]
    by_cases e : t = k
    · subst e; rw [if_pos rfl, if_pos (by omega)]
    · rw [if_neg e, if_neg (by omega)]; simp
theorem outL_all (p : Pr) (c : Nat) : outL p (reachP p) p.blks.length c = ldP p := by
  unfold outL ldP
  refine List.map_congr_left fun t ht => ?_
  rw [if_pos (List.mem_range.1 ht)]
theorem outL_at (p : Pr) (r : List Bool) (k c : Nat) (hk : k < p.blks.length) : (outL p r k c).getD k 0 = (c : Int) := by simp [outL, List.getD, hk]
theorem grown_trans {w w1 w2 : World} {row : Option Nat} (h : w.grownBy w1 row) (k : w1.grownBy w2 row) : w.grownBy w2 row :=
  ⟨k.os.trans h.os, k.tape.trans h.tape, k.output.trans h.output, Nat.le_trans h.size k.size, fun b hb hr => (k.block b (Nat.lt_of_lt_of_le hb h.size) hr).trans (h.block b hb hr)⟩
theorem lone_c (p : Pr) (v : Value) (w : World) (hP : PrV w v p) (hl : p.blks.length ≤ 1000) (gr : Nat) (hR : RowB w gr p.blks.length p.blks.length (reachP p)) :
    Calls Tryd.prog 85 #[v, .slice (some ⟨gr, 0, none⟩) p.blks.length p.blks.length] w fun e w' => ∃ g, e = .returned (.slice (some ⟨g, 0, none⟩) p.blks.length p.blks.length) ∧ OwnI w' w.heap.size (.slice (some ⟨g, 0, none⟩) p.blks.length p.blks.length) (ldP p) ∧ Below w.heap.size w w' := by
  have EP : Hid (∀ w', Ext w w' → Calls Tryd.prog 106 #[v] w' fun e w'' => ∃ gP B vs, e = .returned (.slice (some ⟨gP, 0, none⟩) p.blks.length p.blks.length) ∧ PT w' w'' gP B p.blks.length vs (prT p p.blks.length 0)) := fun w' he => preds_c p v w' (hP.ext he) hl
  obtain ⟨nm, vo, vb, rfl, -, hvb⟩ := hP
  obtain ⟨ab, cb, rfl, h1, h2, -⟩ := hvb
  unfold maxLen at h2
  have HR := Lib.hid hR.cellAt
  have lgr := HR.out.2.2.2.2.2.2
  obtain ⟨W0, hW0⟩ : ∃ W0, W0 = w.alloc (.cells #[.string nm, .bool p.void, .int .i64 p.params, .int .i64 p.regs, vo, .slice ab p.blks.length cb] 37) := ⟨_, rfl⟩
  have B0 : Hid (Below w.heap.size w W0) := by rw [hW0]; exact below_alloc w _
  have H0 := Lib.hid (heap_of_alloc w _ _ hW0)
  have hz0 : W0.heap.size = w.heap.size + 1 := by rw [hW0]; simp
  have hmk := run_make_row' (P := Tryd.prog) 43 3 (.int .i64 0) 8 Tryd.underlying43 info_int rfl .i64 .i64 p.blks.length (by omega) (by omega)
  go_enter Tryd.func85, Tryd.ntmps85
  go_upto_region 1 with (fail)
  rw [← hW0]
  clear hW0 hR
  obtain ⟨y0, y1, y2, y3, y4, y5, -⟩ := cl6 H0.out
  go_upto_region 2 with (fail)
  clear hmk y0 y1 y2 y3 y4 y5
  obtain ⟨W1, hW1⟩ : ∃ W1, W1 = W0.alloc (.cells (madeCells #[.int .i64 0] p.blks.length) 3) := ⟨_, rfl⟩
  have T0 : Hid (OwnI W1 W0.heap.size (.slice (some ⟨W0.heap.size, 0, none⟩) p.blks.length p.blks.length) (outL p (reachP p) 0 0)) := by
    show W1.ownsRow _ _ _ _ _ _
    rw [hW1, outL_len, outL_0]; exact madeI W0 _ _ (Nat.le_refl _) (by unfold maxLen; omega)
  have B1 : Hid (Below W0.heap.size W0 W1) := by rw [hW1]; exact below_alloc _ _
  have hz1 : W0.heap.size < W1.heap.size := by rw [hW1]; simp
  rw [← hW1]
  clear hW1
  rw [← hz0]
  have H0 := Lib.hid ((B1.out.block _ (by omega)).trans H0.out)
  have BB := Lib.hid (B0.out.trans (B1.out.mono B0.out.size))
  have hzg : w.heap.size < W0.heap.size := by omega
  clear hz0
  generalize W0.heap.size = go at *
  clear B0 B1
  obtain ⟨y0, y1, y2, y3, y4, y5, -⟩ := cl6 H0.out
  go_wp2_with fail
  refine (EP.out W1 (Ext.below BB.out)).mono ?_
  rintro e W3 ⟨gP, B, vs, rfl, hPT⟩
  have HPT := Lib.hid hPT
  have T3 := Lib.hid (OwnI.grown' T0.out hPT.below)
  have BB3 := Lib.hid (BB.out.trans (hPT.below.mono BB.out.size))
  have hg0 := hPT.g0
  have hgB := hPT.gB
  have hBw := hPT.Bw
  clear hPT T0 y0 y1 y2 y3 y4 y5
  go_wp2_with fail
  go_loopw [17, 6, 7] (fun i _ _ wr => ∃ k : Nat, i = .int .i64 (k : Int) ∧ k ≤ p.blks.length ∧ Hid (OwnI wr go (.slice (some ⟨go, 0, none⟩) p.blks.length p.blks.length) (outL p (reachP p) k 0)) ∧ Hid (W3.grownBy wr (some go))) (fun i _ _ _ => p.blks.length - (intOf i).toNat)
  case atStart => exact ⟨0, rfl, Nat.zero_le _, T3, ⟨rfl, rfl, rfl, Nat.le_refl _, fun _ _ _ => rfl⟩⟩
  case round =>
    clear T3
    obtain ⟨k, rfl, hk, HT, HG⟩ := hrel
    by_cases hlt : k < p.blks.length
    · have g1 : decide ((k : Int) < (p.blks.length : Int)) = true := decide_eq_true (by omega)
      have g2 : decide (k < p.blks.length) = true := decide_eq_true hlt
      have hrow := HPT.out.row k hlt
      have hcell := cell_grown HG.out (by simp; omega) (HPT.out.cell hlt)
      obtain ⟨av, cv, ev⟩ := ownI_sl (k := (rowsP p k).length) hrow rfl
      have hrl : (rowsP p k).length ≤ p.blks.length := rowsP_len hlt
      rw [ev] at hcell hrow
      clear ev
      have HRM := Lib.hid (fun x (hx : x ∈ rowsP p k) => rowsP_mem hlt hx)
      have HNX := Lib.hid (outL_next p (reachP p) k)
      have HRow : Hid (OwnI W3 B (.slice av (rowsP p k).length cv) (rowsP p k)) := hrow
      clear hrow
      go_wp2_with fail
      go_loopw [24, 9] (fun i _ wr => ∃ j : Nat, i = .int .i64 (j : Int) ∧ j ≤ (rowsP p k).length ∧ Hid (OwnI wr go (.slice (some ⟨go, 0, none⟩) p.blks.length p.blks.length) (outL p (reachP p) k (cntR (reachP p) ((rowsP p k).take j)))) ∧ Hid (W3.grownBy wr (some go))) (fun i _ _ => (rowsP p k).length - (intOf i).toNat)
      case atStart => exact ⟨0, rfl, Nat.zero_le _, HT, HG⟩
      case round =>
        clear HT HG hcell
        obtain ⟨j, rfl, hj, HT, HG⟩ := hrel
        by_cases hlj : j < (rowsP p k).length
        · have g3 : decide ((j : Int) < ((rowsP p k).length : Int)) = true := decide_eq_true (by omega)
          have g4 : decide (j < (rowsP p k).length) = true := decide_eq_true hlj
          obtain ⟨ga, rfl⟩ := own_ptr HRow.out (.inr (by omega))
          have hga := (OwnI.cellAt HRow.out).2.2.2.1
          have xj := cell_grown HG.out (b := ga) (o := j) (by simp; omega) ((OwnI.cellAt HRow.out).2.2.2.2.1 j hlj)
          obtain ⟨i, hi, ei⟩ := HRM.out ((rowsP p k).getD j 0) (by simp [List.getD, hlj])
          have hcs := cntR_snoc (reachP p) (rowsP p k) j hlj
          rw [ei] at xj hcs
          rw [Int.toNat_natCast] at hcs
          have xr := cell_grown HG.out (b := gr) (o := i) (by simp; omega) ((BB3.out.cell (p := ⟨gr, i, none⟩) lgr).trans (HR.out.2.2.2.2.1 i hi))
          have hi1 : (i : Int) < p.blks.length := by omega
          clear ei
          have hcl := cntR_le (reachP p) ((rowsP p k).take j)
          rw [List.length_take] at hcl
          cases hrk : (reachP p).getD i false
          · rw [hrk] at xr hcs
            simp only [Bool.false_eq_true, if_false, Nat.add_zero] at hcs
            have hcs := Lib.hid hcs
            clear hrk
            go_wp2_with fail
            exact ⟨⟨j + 1, rfl, by omega, by rw [hcs.out]; exact HT, HG⟩, by simp [intOf]; omega⟩
          · rw [hrk] at xr hcs
            simp only [if_true] at hcs
            have hcs := Lib.hid hcs
            clear hrk
            have hck := (OwnI.cellAt HT.out).2.2.2.2.1 k hlt
            rw [outL_at _ _ _ _ hlt] at hck
            have hfz := (OwnI.cellAt HT.out).2.2.2.2.2 k
            have hst := (World.ownsRow.stored (n := p.blks.length) (by have := HT.out; unfold OwnI at this; rw [outL_len] at this; exact this) k (.int .i64 ((cntR (reachP p) ((rowsP p k).take (j + 1)) : Nat) : Int))).1
            have HT2 : Hid (OwnI (wr.setCell ⟨go, k, none⟩ (.int .i64 ((cntR (reachP p) ((rowsP p k).take (j + 1)) : Nat) : Int))) go (.slice (some ⟨go, 0, none⟩) p.blks.length p.blks.length) (outL p (reachP p) k (cntR (reachP p) ((rowsP p k).take (j + 1))))) := by
              show World.ownsRow _ _ _ _ _ _ _
              rw [outL_set p (reachP p) k (cntR (reachP p) ((rowsP p k).take j)) _ hlt, List.length_set, outL_len, List.map_set]
              exact hst
            have HG2 : Hid (W3.grownBy (wr.setCell ⟨go, k, none⟩ (.int .i64 ((cntR (reachP p) ((rowsP p k).take (j + 1)) : Nat) : Int))) (some go)) := grown_trans HG.out (grown_set wr go k _)
            clear hst
            have c0 : 0 ≤ (cntR (reachP p) ((rowsP p k).take j) : Int) := by omega
            have c1 : (cntR (reachP p) ((rowsP p k).take j) : Int) ≤ 1000 := by omega
            go_wp2_with fail
            rw [show ((cntR (reachP p) ((rowsP p k).take j) : Nat) : Int) + 1 = ((cntR (reachP p) ((rowsP p k).take (j + 1)) : Nat) : Int) by rw [hcs.out]; omega]
            exact ⟨⟨j + 1, rfl, by omega, HT2, HG2⟩, by simp [intOf]; omega⟩
        · obtain rfl : j = (rowsP p k).length := by omega
          have g3 : decide (((rowsP p k).length : Int) < ((rowsP p k).length : Int)) = false := decide_eq_false (by omega)
          have g4 : decide ((rowsP p k).length < (rowsP p k).length) = false := decide_eq_false (by omega)
          rw [List.take_length] at HT
          go_wp2_with fail
          exact ⟨⟨k + 1, rfl, by omega, by rw [← HNX.out]; exact HT, HG⟩, by simp [intOf]; omega⟩
    · obtain rfl : k = p.blks.length := by omega
      have g1 : decide ((p.blks.length : Int) < (p.blks.length : Int)) = false := decide_eq_false (by omega)
      have g2 : decide (p.blks.length < p.blks.length) = false := decide_eq_false (by omega)
      rw [outL_all] at HT
      go_wp2_with fail
      go_ret
      exact ⟨go, rfl, HT.out.base (by omega), BB3.out.grown HG.out BB3.out.size (fun b e => by simp only [Option.some.injEq] at e; omega)⟩
end Go.Proofs.YtnnhobbabcfogaaDoor

set_option linter.all false
namespace Go.Proofs.YtnnhobbabcfogaaDoor
open Go.ChangeShapes Go.WideShapes Go.ChangeAt Go.RowKit Go.Maps
set_option maxHeartbeats 4000000
set_option linter.unusedVariables false
set_option maxRecDepth 100000

structure Mg where
  bs : List Bk
  gone : List Bool
def mgB (b x : Bk) : Bk := ⟨b.ins ++ x.ins, x.fin, x.a, x.to, x.els⟩
def mgS (s : Mg) (n t : Nat) : Mg := ⟨s.bs.set n (mgB (s.bs.getD n default) (s.bs.getD t default)), s.gone.set t true⟩
/-- one block takes in what it may; none: a way that no contract speaks of -/
def mgI (r : List Bool) (ld : List Int) (n : Nat) : Nat → Mg → Option Mg
  | 0, _ => none
  | f + 1, s =>
    if r.getD n false = false then some s
    else if s.gone.getD n false = true then some s
    else if ((s.bs.getD n default).fin == 1) = false then some s
    else if (decide (0 ≤ (s.bs.getD n default).to) && decide ((s.bs.getD n default).to < s.bs.length)) = false then none
    else if ((s.bs.getD n default).to == (n : Int)) = true then some s
    else if ((s.bs.getD n default).to == 0) = true then some s
    else if (ld.getD (s.bs.getD n default).to.toNat 0 == 1) = false then some s
    else if (s.bs.getD n default).ins.isEmpty = true then none
    else if (s.bs.getD (s.bs.getD n default).to.toNat default).ins.isEmpty = true then none
    else if decide ((s.bs.getD n default).ins.length + (s.bs.getD (s.bs.getD n default).to.toNat default).ins.length ≤ 1000000) = false then none
    else mgI r ld n f (mgS s n (s.bs.getD n default).to.toNat)
def mgO (r : List Bool) (ld : List Int) (F : Nat) : Nat → Nat → Mg → Option Mg
  | 0, _, s => some s
  | m + 1, k, s => match mgI r ld k F s with
    | none => none
    | some s' => mgO r ld F m (k + 1) s'
def mgP (p : Pr) (F : Nat) : Option Pr := match mgO (reachP p) (ldP p) F p.blks.length 0 ⟨p.blks, List.replicate p.blks.length false⟩ with
  | none => none
  | some s => some ⟨p.void, p.params, p.regs, p.objs, s.bs⟩
theorem mgO_go {r : List Bool} {ld : List Int} {F N k : Nat} {s sf : Mg} (h : mgO r ld F (N - k) k s = some sf) (hk : k < N) : ∃ s1, mgI r ld k F s = some s1 ∧ mgO r ld F (N - (k + 1)) (k + 1) s1 = some sf := by
  rw [show N - k = (N - (k + 1)) + 1 by omega] at h
  unfold mgO at h
  split at h
  · cases h
  · exact ⟨_, ‹_›, h⟩
/-- a row of instructions: a given one, or one of the call's own -/
def InsQ (w w' : World) (v : Value) (l : List In) : Prop := RdIns w v l ∨ ∃ L : List (In × Value), L.map Prod.fst = l ∧ (∀ x ∈ L, RdI w x.2 x.1.args) ∧ w'.ownsRow 0 45 11 v L.length (L.flatMap inCells)
theorem InsQ.grow {w w' w'' : World} {v : Value} {l : List In} (h : InsQ w w' v l) (hb : Below w'.heap.size w' w'') : InsQ w w'' v l := by
  rcases h with h | ⟨L, h1, h2, h3⟩
  · exact .inl h
  · exact .inr ⟨L, h1, h2, own_below h3 hb⟩
theorem InsQ.put {w w' : World} {v : Value} {l : List In} (h : InsQ w w' v l) {b : Nat} {e : TypeId} {cur : Array Value} {fz : Nat × Nat} (hb : w'.heap[b]? = some (.cells cur e fz)) (he : e ≠ 45) (j : Nat) (u : Value) : InsQ w (w'.setCell ⟨b, j, none⟩ u) v l := by
  rcases h with h | ⟨L, h1, h2, h3⟩
  · exact .inl h
  · refine .inr ⟨L, h1, h2, World.ownsRow.kept h3 (grown_set w' b j u) ?_⟩
    obtain ⟨-, ⟨rfl, -⟩ | ⟨g, cap, cu, rfl, -, hg, -⟩⟩ := h3
    · exact .inl rfl
    · right
      intro e2
      simp only [Value.ownBlock, Option.some.injEq] at e2
      subst e2
      rw [hg] at hb
      simp only [Option.some.injEq, Obj.cells.injEq] at hb
      exact he hb.2.1.symm
theorem InsQ.src {w w' : World} {v : Value} {l : List In} (h : InsQ w w' v l) (hne : l ≠ []) (he : Ext w w') : SrcQ w w' v l := by
  rcases h with h | ⟨L, h1, h2, h3⟩
  · exact SrcQ.rd h hne he
  · exact SrcQ.own h3 h1 h2 hne
theorem InsQ.rd {w w' : World} {v : Value} {l : List In} (h : InsQ w w' v l) (he : Ext w w') : RdIns w' v l := by
  rcases h with h | ⟨L, h1, h2, h3⟩
  · exact h.ext he
  · rw [← h1]; exact OwnIn.rd ⟨h3, fun x hx => (h2 x hx).ext he⟩
theorem SrcQ.keep {w0 w w' : World} {v : Value} {l : List In} (h : SrcQ w0 w v l) (he : Ext w w') : SrcQ w0 w' v l := by
  obtain ⟨ad, c, L, h1, h2, h3, h4, h5, h6⟩ := h
  exact ⟨ad, c, L, h1, h2, h3, h4, h5, fun j u hj => by
    obtain ⟨b, o, e, hx⟩ := h6 j u hj
    exact ⟨b, o, e, he _ _ hx⟩⟩
theorem ownBase {w : World} {B s n : Nat} {e : TypeId} {v : Value} {xs : List Value} (h : w.ownsRow B e s v n xs) : w.ownsRow 0 e s v n xs := by
  obtain ⟨hl, h | ⟨g, cap, cur, e1, -, r⟩⟩ := h
  · exact ⟨hl, .inl h⟩
  · exact ⟨hl, .inr ⟨g, cap, cur, e1, Nat.zero_le _, r⟩⟩
theorem ownLow {w : World} {B B' s n : Nat} {e : TypeId} {v : Value} {xs : List Value} (h : w.ownsRow B e s v n xs) (hB : B' ≤ B) : w.ownsRow B' e s v n xs := by
  obtain ⟨hl, h | ⟨g, cap, cur, e1, h1, r⟩⟩ := h
  · exact ⟨hl, .inl h⟩
  · exact ⟨hl, .inr ⟨g, cap, cur, e1, Nat.le_trans hB h1, r⟩⟩
/-- rows of blocks whose instructions are the call's own, and the row of those that are gone -/
structure MgM (w W0 w' : World) (B gb gg N c : Nat) (L : List (Bk × Value)) (G : List Bool) : Prop where
  own : w'.ownsRow B 40 5 (.slice (some ⟨gb, 0, none⟩) N c) L.length (L.flatMap bkCells)
  len : L.length = N
  ins : ∀ x ∈ L, InsQ w w' x.2 x.1.ins
  gone : OwnB w' B (.slice (some ⟨gg, 0, none⟩) N N) G
  below : Below B W0 w'
  le : Below w.heap.size w W0
  bl : w.heap.size ≤ B ∧ B ≤ W0.heap.size
theorem own_heap {w : World} {B s n : Nat} {e : TypeId} {g m c : Nat} {xs : List Value} (h : w.ownsRow B e s (.slice (some ⟨g, 0, none⟩) m c) n xs) : ∃ cur, w.heap[g]? = some (.cells cur e (0, 0)) ∧ B ≤ g := by
  obtain ⟨-, ⟨e1, -⟩ | ⟨g', cap, cur, e1, hB, hg, -⟩⟩ := h
  · simp at e1
  · simp only [Value.slice.injEq, Option.some.injEq, Addr.mk.injEq] at e1
    obtain ⟨⟨rfl, -⟩, -⟩ := e1
    exact ⟨cur, hg, hB⟩
variable {w W0 w' w'' : World} {B gb gg N c : Nat} {L : List (Bk × Value)} {G : List Bool}
theorem MgM.ext (h : MgM w W0 w' B gb gg N c L G) : Below w.heap.size w w' := h.le.trans (h.below.mono h.bl.1)
theorem MgM.grow (h : MgM w W0 w' B gb gg N c L G) (hb : Below w'.heap.size w' w'') : MgM w W0 w'' B gb gg N c L G :=
  ⟨own_below h.own hb, h.len, fun x hx => (h.ins x hx).grow hb, OwnB.below h.gone hb, h.below.trans (hb.mono (Nat.le_trans h.bl.2 h.below.size)), h.le, h.bl⟩
theorem MgM.ne (h : MgM w W0 w' B gb gg N c L G) : gb ≠ gg := fun e => by
  obtain ⟨c1, h1, -⟩ := own_heap h.own
  obtain ⟨c2, h2, -⟩ := own_heap h.gone
  rw [e, h2] at h1
  simp only [Option.some.injEq, Obj.cells.injEq] at h1
  exact absurd h1.2.1 (by decide)
theorem MgM.put (h : MgM w W0 w' B gb gg N c L G) {k : Nat} (hk : k < L.length) (j : Nat) (hj : j < 5) (u : Value) (a : Bk × Value)
    (ha : bkCells a = (bkCells (L.getD k default)).set j u) (hi : InsQ w w' a.2 a.1.ins) : MgM w W0 (w'.setCell ⟨gb, k * 5 + j, none⟩ u) B gb gg N c (L.set k a) G := by
  obtain ⟨h1, -⟩ := World.ownsRow.stored (show w'.ownsRow B 40 5 (.slice (some ⟨gb, 0, none⟩) N c) N (L.flatMap bkCells) by have := h.own; rw [h.len] at this; exact this) (k * 5 + j) u
  rw [flat_set bkCells 5 (fun _ => rfl) L k j u a hk hj ha] at h1
  obtain ⟨cu, hh, hB⟩ := own_heap h.own
  refine ⟨by rw [List.length_set, h.len]; exact h1, by rw [List.length_set]; exact h.len, fun x hx => ?_, World.ownsRow.kept h.gone (grown_set w' gb (k * 5 + j) u) (.inr fun e => h.ne (by simpa [Value.ownBlock] using e.symm)), h.below.setCell (p := ⟨gb, k * 5 + j, none⟩) hB u, h.le, h.bl⟩
  rcases List.mem_or_eq_of_mem_set hx with hx | rfl
  · exact (h.ins x hx).put hh (by decide) _ _
  · exact hi.put hh (by decide) _ _
theorem MgM.put' {k : Nat} {a : Bk × Value} (h : MgM w W0 w' B gb gg N c (L.set k a) G) (hk : k < L.length) (j : Nat) (hj : j < 5) (u : Value) (b : Bk × Value)
    (hb : bkCells b = (bkCells a).set j u) (hi : InsQ w w' b.2 b.1.ins) : MgM w W0 (w'.setCell ⟨gb, k * 5 + j, none⟩ u) B gb gg N c (L.set k b) G := by
  have e : (L.set k a).getD k default = a := by simp [List.getD, hk]
  have := h.put (by simpa using hk) j hj u b (by rw [e]; exact hb) hi
  rwa [List.set_set] at this
theorem MgM.put3 {k : Nat} {a : Bk × Value} (h : MgM w W0 w' B gb gg N c (L.set k a) G) (hk : k < L.length) (j : Nat) (hj : j < 5) (u : Value) (b : Bk × Value)
    (hb : bkCells b = (bkCells a).set j u) (hi : b.1.ins = a.1.ins) (hv : b.2 = a.2) : MgM w W0 (w'.setCell ⟨gb, k * 5 + j, none⟩ u) B gb gg N c (L.set k b) G :=
  h.put' hk j hj u b hb (by rw [hi, hv]; exact h.ins a (List.mem_iff_getElem.2 ⟨k, by simpa using hk, by simp⟩))
theorem keepSet {S : Nat → Prop} {w : World} {g j : Nat} {u : Value} (h : ∀ x, S x → x ≠ g) : Keep S w (w.setCell ⟨g, j, none⟩ u) := fun b o hs => World.cell?_of_block (a := ⟨b, o, none⟩) (heap_setCell_other w ⟨g, j, none⟩ b u (h b hs))
theorem MgM.mark (h : MgM w W0 w' B gb gg N c L G) (t : Nat) (x : Bool) : MgM w W0 (w'.setCell ⟨gg, t, none⟩ (.bool x)) B gb gg N c L (G.set t x) := by
  obtain ⟨cu, hh, hB⟩ := own_heap h.gone
  exact ⟨World.ownsRow.kept h.own (grown_set w' gg t _) (.inr fun e => h.ne (by simpa [Value.ownBlock] using e)), h.len, fun y hy => (h.ins y hy).put hh (by decide) _ _, OwnB.set h.gone t x, h.below.setCell (p := ⟨gg, t, none⟩) hB _, h.le, h.bl⟩
theorem MgM.cell (h : MgM w W0 w' B gb gg N c L G) {k : Nat} (hk : k < N) :
    w'.cell? ⟨gb, k * 5, none⟩ = some (L.getD k default).2 ∧ w'.cell? ⟨gb, k * 5 + 1, none⟩ = some (.int .i64 (L.getD k default).1.fin) ∧ w'.cell? ⟨gb, k * 5 + 2, none⟩ = some (.int .i64 (L.getD k default).1.a) ∧
    w'.cell? ⟨gb, k * 5 + 3, none⟩ = some (.int .i64 (L.getD k default).1.to) ∧ w'.cell? ⟨gb, k * 5 + 4, none⟩ = some (.int .i64 (L.getD k default).1.els) := by
  have hk' : k < L.length := by rw [h.len]; exact hk
  have key : ∀ j u, (bkCells (L.getD k default))[j]? = some u → j < 5 → w'.cell? ⟨gb, k * 5 + j, none⟩ = some u := fun j u hu hj => by
    have hlt : k * 5 + j < N * 5 := by omega
    have H := h.own
    rw [h.len] at H
    have := H.cellAt (k * 5 + j) hlt
    rw [this, flat_at bkCells 5 (fun _ => rfl) L k j hk' hj, hu]
  exact ⟨key 0 _ rfl (by decide), key 1 _ rfl (by decide), key 2 _ rfl (by decide), key 3 _ rfl (by decide), key 4 _ rfl (by decide)⟩
theorem MgM.fz (h : MgM w W0 w' B gb gg N c L G) (i : Nat) : w'.frozen? ⟨gb, i, none⟩ = false := by
  have H := h.own
  rw [h.len] at H
  exact World.ownsRow.frozenAt H i
theorem MgM.fin (h : MgM w W0 w' B gb gg N c L G) {b : Nat} (hb : b < B) (hbw : w.heap.size ≤ b) {cur : Array Value} (hh : w'.heap[b]? = some (.cells cur 37 (0, 0))) (c0 c1 c2 c3 c4 c5 : Value) :
    RdBks ((((((w'.setCell ⟨b, 0, none⟩ c0).setCell ⟨b, 1, none⟩ c1).setCell ⟨b, 2, none⟩ c2).setCell ⟨b, 3, none⟩ c3).setCell ⟨b, 4, none⟩ c4).setCell ⟨b, 5, none⟩ c5) (.slice (some ⟨gb, 0, none⟩) N c) (L.map Prod.fst) ∧
    Below w.heap.size w ((((((w'.setCell ⟨b, 0, none⟩ c0).setCell ⟨b, 1, none⟩ c1).setCell ⟨b, 2, none⟩ c2).setCell ⟨b, 3, none⟩ c3).setCell ⟨b, 4, none⟩ c4).setCell ⟨b, 5, none⟩ c5) := by
  have hbl := ((((((h.ext.setCell (p := ⟨b, 0, none⟩) hbw c0).setCell (p := ⟨b, 1, none⟩) hbw c1).setCell (p := ⟨b, 2, none⟩) hbw c2).setCell (p := ⟨b, 3, none⟩) hbw c3).setCell (p := ⟨b, 4, none⟩) hbw c4).setCell (p := ⟨b, 5, none⟩) hbw c5)
  have o0 := h.own
  refine ⟨OwnBk.rd ⟨own_setCell (own_setCell (own_setCell (own_setCell (own_setCell (own_setCell o0 hb 0 c0) hb 1 c1) hb 2 c2) hb 3 c3) hb 4 c4) hb 5 c5, fun x hx => ?_⟩, hbl⟩
  have h0 := box_set hh 0 c0
  have h1 := box_set h0 1 c1
  have h2 := box_set h1 2 c2
  have h3 := box_set h2 3 c3
  have h4 := box_set h3 4 c4
  exact ((((((h.ins x hx).put hh (by decide) 0 c0).put h0 (by decide) 1 c1).put h1 (by decide) 2 c2).put h2 (by decide) 3 c3).put h3 (by decide) 4 c4 |>.put h4 (by decide) 5 c5).rd (Ext.below hbl)
end Go.Proofs.YtnnhobbabcfogaaDoor
