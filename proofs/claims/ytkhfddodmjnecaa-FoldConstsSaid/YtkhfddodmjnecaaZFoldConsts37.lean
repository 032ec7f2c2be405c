/-
 A map of numbers to words, as a partial function with its size.; What registers have whenever a block begins, as maps (fold.Consts).
-/
import Derived.Test.YtkhfddodmjnecaaZFoldConsts36
import Derived.Maps.Own
import Derived.Maps.OwnOps
import Derived.Maps.Views
import Derived.Maps.OwnSet

set_option linter.all false
namespace Go.Proofs.Ytkhfddodmjnecaa
open Go.ChangeShapes Go.WideShapes Go.ChangeAt Go.RowKit Go.Maps
set_option maxHeartbeats 4000000
set_option maxRecDepth 100000
set_option linter.unusedVariables false

theorem lawC : Keyed Try.prog 3 := int_keyed Try.underlying3
def u32R : Value → Option (DataW Unit × List MemPlace)
 | .int .u32 z => some (.lit (.int .u32 z), [])
 | _ => none
theorem u32R_inv {v : Value} {z : Int} {ps : List MemPlace} (h : u32R v = some (.lit (.int .u32 z), ps)) : v = .int .u32 z := by
 unfold u32R at h
 split at h
 ·simp only [Option.some.injEq, Prod.mk.injEq, DataW.lit.injEq, Lit.int.injEq, true_and] at h
  rw [h.1]
 ·cases h
/-- block b is a map of numbers to words, of c entries -/
def MapU (w : World) (b c : Nat) (M : Int → Option Int) : Prop :=
 ∃ D, w.ownsMap Try.prog 3 u32R b c D ∧ Tidy D ∧ size D = c ∧ ∀ x, Maps.has D (.int .i64 x) = (M x).isSome ∧ D.atKey (.int .i64 x) (.lit (.int .u32 0)) = .lit (.int .u32 ((M x).getD 0))
theorem zeroU (w : World) : (zeroValue 36).run Try.prog w = .ok (.int .u32 0) w := by kernel_rfl
theorem MapU.made (w : World) : MapU (w.alloc (.map #[] 0)) w.heap.size 0 (fun _ => none) :=
 ⟨.map [], World.ownsMap_made _ _ _ _, tidy_empty, rfl, fun _ => ⟨rfl, rfl⟩⟩
theorem MapU.kept {w w' : World} {b c : Nat} {M : Int → Option Int} {row : Option Nat} (h : MapU w b c M) (hg : w.grownBy w' row) (hr : some b ≠ row) : MapU w' b c M := by
 obtain ⟨D, h1, h2⟩ := h
 exact ⟨D, h1.kept hg hr, h2⟩
theorem MapU.grow {w w' : World} {b c : Nat} {M : Int → Option Int} (h : MapU w b c M) (hb : Below w.heap.size w w') : MapU w' b c M :=
 h.kept (row := none) ⟨hb.os, hb.tape, hb.output, hb.size, fun k hk _ => hb.block k hk⟩ (by simp)
theorem MapU.lt {w : World} {b c : Nat} {M : Int → Option Int} (h : MapU w b c M) : b < w.heap.size := by
 obtain ⟨D, h1, -⟩ := h
 exact h1.lt
theorem MapU.look {w : World} {b c : Nat} {M : Int → Option Int} (h : MapU w b c M) (x : Int) (hx : (Lit.int .i64 x).wf = true) : (Instr.lookup 81 (.map (some b)) (.int .i64 x) true).run Try.prog w = .ok (.tuple #[.int .u32 ((M x).getD 0), .bool (M x).isSome]) w := by
 obtain ⟨D, h1, h2, -, h3⟩ := h
 obtain ⟨v, ps, hr, hv⟩ := h1.look_ok lawC Try.underlying81 (zeroU w) (zd := .lit (.int .u32 0)) (zp := []) rfl (keyOf_int_mk Try.underlying3 hx)
 rw [(h3 x).2] at hv
 rw [hr, (h3 x).1, u32R_inv hv]
theorem MapU.len {w : World} {b c : Nat} {M : Int → Option Int} (h : MapU w b c M) (ty : TypeId) : (Builtin.len_ #[81] ty #[.map (some b)]).run Try.prog w = .ok (.int .i64 c) w := by
 obtain ⟨D, h1, -, h2, -⟩ := h
 rw [h1.len Try.underlying81 ty, h2]
theorem MapU.put {ops : Array Oper} {rest : List Oper} {o : Oper} {a : Act} {Q : Exit → Act → World → Prop} {w : World} {b c : Nat} {M : Int → Option Int} (h : MapU w b c M) (x z : Int) (hx : (Lit.int .i64 x).wf = true) (hn : c < maxLen) (hno : M x = none)
  (hg : o.guard = none) (m k v : Operand) (hop : o.op = Op.mapUpdate 81 m k v) (hm : a.eval m = .map (some b)) (hk : a.eval k = .int .i64 x) (hv : a.eval v = .int .u32 z)
  (hK : ∀ w', MapU w' b (c + 1) (fun y => if y = x then some z else M y) → w.grownBy w' (some b) → wpList Try.prog ops Q rest (a.put o.dst undef) w') : wpList Try.prog ops Q (o :: rest) a w := by
 obtain ⟨D, h1, h2, hs, h3⟩ := h
 refine wpList_mapUpdate_own w hg m k v 81 hop 3 36 lawC Try.underlying81 u32R b c D hm h1 hn _ _ (.int .i64 x) hk hv (keyOf_int_mk Try.underlying3 hx) (.lit (.int .u32 z)) [] rfl ?_
 intro w' h1' hgr
 refine hK w' ⟨_, h1', h2.put (by trivial) _, ?_, fun y => ?_⟩ hgr
 ·rw [size_put h2, (h3 x).1, hno, hs]; rfl
 ·by_cases e : y = x
  ·subst e
   dsimp only
   rw [if_pos rfl, atKey_put_same h2.isMap (by trivial), has_put_same h2.isMap (by trivial)]
   exact ⟨rfl, rfl⟩
  ·have hne : (Lit.int .i64 y) ≠ Lit.int .i64 x := by intro e2; simp only [Lit.int.injEq] at e2; exact e e2.2
   dsimp only
   rw [if_neg e, atKey_put_other hne, has_put_other hne]
   exact h3 y
/-- what a map holds of a row's first registers -/
def mpC (t : Ro) (k : Nat) (x : Int) : Option Int := if x < (k : Int) then cAt t x else none
def cntC (t : Ro) (k : Nat) : Nat := (t.take k).countP Option.isSome
theorem mpC_zero (t : Ro) : mpC t 0 = fun _ => none := by
 funext x
 unfold mpC cAt
 by_cases h : x < 0
 ·rw [if_pos (by omega), if_neg (by omega)]
 ·rw [if_neg (by omega)]
theorem mpC_none {t : Ro} {k : Nat} (h : k < t.length) (e : t.getD k none = none) : mpC t (k + 1) = mpC t k ∧ cntC t (k + 1) = cntC t k := by
 constructor
 ·funext x
  unfold mpC
  by_cases e1 : x < (k : Int)
  ·rw [if_pos (by omega), if_pos e1]
  ·rw [if_neg e1]
   by_cases e2 : x = (k : Int)
   ·subst e2
    rw [if_pos (by omega)]
    unfold cAt
    rw [if_pos (by omega), Int.toNat_natCast]; exact e
   ·rw [if_neg (by omega)]
 ·unfold cntC
  have : t[k] = none := by simpa [List.getD, h] using e
  rw [List.take_succ, List.getElem?_eq_getElem h, List.countP_append, this]; rfl
theorem mpC_some {t : Ro} {k : Nat} {z : Int} (h : k < t.length) (e : t.getD k none = some z) : mpC t (k + 1) = (fun y => if y = (k : Int) then some z else mpC t k y) ∧ cntC t (k + 1) = cntC t k + 1 ∧ mpC t k (k : Int) = none := by
 refine ⟨?_, ?_, ?_⟩
 ·funext x
  unfold mpC
  by_cases e2 : x = (k : Int)
  ·subst e2
   rw [if_pos (by omega)]
   unfold cAt
   rw [if_pos (by omega), Int.toNat_natCast]
   simpa using e
  ·rw [if_neg e2]
   by_cases e1 : x < (k : Int)
   ·rw [if_pos (by omega), if_pos e1]
   ·rw [if_neg (by omega), if_neg e1]
 ·unfold cntC
  have : t[k] = some z := by simpa [List.getD, h] using e
  rw [List.take_succ, List.getElem?_eq_getElem h, List.countP_append, this]; rfl
 ·unfold mpC; rw [if_neg (by omega)]
theorem mpC_all (t : Ro) (x : Int) : mpC t t.length x = cAt t x := by
 unfold mpC
 by_cases h : x < (t.length : Int)
 ·rw [if_pos h]
 ·rw [if_neg h]
  unfold cAt; rw [if_neg (by omega)]
end Go.Proofs.Ytkhfddodmjnecaa

set_option linter.all false
namespace Go.Proofs.Ytkhfddodmjnecaa
open Go.ChangeShapes Go.WideShapes Go.ChangeAt Go.RowKit Go.Maps
set_option maxHeartbeats 4000000
set_option maxRecDepth 100000
set_option linter.unusedVariables false

theorem MapU.ne {w : World} {b c B m s : Nat} {e : TypeId} {M : Int → Option Int} {v : Value} {xs : List Value} (h : MapU w b c M) (ho : w.ownsRow B e s v m xs) : some b ≠ v.ownBlock := by
 obtain ⟨D, h1, -⟩ := h
 intro e2
 obtain ⟨-, ⟨rfl, -⟩ | ⟨g', cap, cur, rfl, hb, hg, -⟩⟩ := ho
 ·cases e2
 ·simp only [Value.ownBlock, Option.some.injEq] at e2
  subst e2
  obtain ⟨es, ck, hes, -⟩ := h1
  rw [hg] at hes
  cases hes
def OwnM (w : World) (B : Nat) (v : Value) (bs : List Nat) : Prop := w.ownsRow B 81 1 v bs.length (bs.map fun b => .map (some b))
theorem info_mapU : (Try.prog.info? 81).map (fun i => (i.zero, i.size, i.bytes)) = some (some (.map none), 1, 8) := by kernel_rfl
theorem OwnM.base {w : World} {B : Nat} {v : Value} {bs : List Nat} (h : OwnM w B v bs) : OwnM w 0 v bs := by
 obtain ⟨hl, h | ⟨g, cap, cur, e1, e2, r⟩⟩ := h
 ·exact ⟨hl, .inl h⟩
 ·exact ⟨hl, .inr ⟨g, cap, cur, e1, Nat.zero_le _, r⟩⟩
/-- the row of a block, at its beginning -/
def atB (R : Nat) (X : Tb) (i : Nat) : Ro := (X.getD i none).getD (roNo R)
def MpsQ (w : World) (R : Nat) (X : Tb) (bs : List Nat) (k : Nat) : Prop := ∀ j, j < k → MapU w (bs.getD j 0) (cntC (atB R X j) R) (cAt (atB R X j))
def ConstsQ (p : Pr) (R : Nat) (w : World) (e : Ending) (w' : World) : Prop := ∃ (v : Value) (bs : List Nat) (X : Tb), e = .returned v ∧ X.length = p.blks.length ∧ bs.length = p.blks.length ∧ RunC p (wkD p).ord.reverse (X0C p.blks.length R) X ∧ (∀ n : Nat, (n : Int) ∈ (wkD p).ord.reverse → StillC p X n) ∧ OwnM w' 0 v bs ∧ MpsQ w' R X bs p.blks.length ∧ (∀ i, i < p.blks.length → (atB R X i).length = R ∧ RoOk (atB R X i)) ∧ Below w.heap.size w w'
theorem consts_c (p : Pr) (V : Value) (w : World) (R : Nat) (hP : PrV w V p) (hR : p.regs = (R : Int)) (hRb : R ≤ 1000) (h0 : 0 < p.blks.length) (hn : p.blks.length ≤ 1000) (hod : 0 < (wkD p).ord.length)
  (hi : ∀ n, n < p.blks.length → InsC R (p.blks.getD n default).ins ∧ (p.blks.getD n default).ins.length ≤ 100000) (ho : ∀ n, n < p.blks.length → ∀ q ∈ outsB (p.blks.getD n default), 0 ≤ q ∧ q < (p.blks.length : Int)) :
  Calls Try.prog 37 #[V] w (ConstsQ p R w) := by
 have HRO : Hid (∀ W, Ext w W → Calls Try.prog 79 #[V] W (RowsQ p R W)) := fun W hW => rows_c p V W R (hP.ext hW) hR hRb h0 hn hod hi ho
 obtain ⟨nm, vo, vb, rfl, hvo, hvb⟩ := hP
 obtain ⟨ao, co, rfl, -⟩ := hvo
 obtain ⟨ab, cb, rfl, -, b2, -⟩ := hvb
 unfold ConstsQ
 rw [hR] at HRO ⊢
 clear hi ho hod hR
 obtain ⟨W1, hW1⟩ : ∃ W1, W1 = w.alloc (.cells #[.string nm, .bool p.void, .int .i64 p.params, .int .i64 R, .slice ao p.objs.length co, .slice ab p.blks.length cb] 32) := ⟨_, rfl⟩
 have H0 := Lib.hid (heap_of_alloc w _ _ hW1)
 have B1 : Hid (Below w.heap.size w W1) := by
  show Below _ _ _
  rw [hW1]; exact below_alloc w _
 have s1 : W1.heap.size = w.heap.size + 1 := by rw [hW1]; simp
 have HW1 := Lib.hid hW1.symm
 clear hW1
 obtain ⟨p0, p1, p2, p3, p4, p5, lp⟩ := cl6 H0.out
 go_enter Try.func37, Try.ntmps37
 go_wp2_with fail
 rw [HW1.out]
 clear HW1
 refine (HRO.out W1 (Ext.below B1.out)).mono ?_
 clear HRO
 unfold RowsQ
 rintro e w2 ⟨gt, ct, rs, X, rfl, hX, hru, hst, hT, hb2⟩
 have HRU := Lib.hid hru
 have HST := Lib.hid hst
 have B2 : Hid (Below w.heap.size w w2) := B1.out.trans (hb2.mono B1.out.size)
 have HT := Lib.hid hT
 obtain ⟨hc1, hc2⟩ := hT.caps
 rw [fillC_len, hX] at hc1
 unfold maxLen at hc2
 have HXL := Lib.hid hX
 clear hru hst hb2 hT hX p0 p1 p2 p3 p4 p5 lp B1 H0 b2
 go_wp2_with fail
 have HO0 : Hid (OwnM w2 w2.heap.size (.slice none 0 0) []) := ⟨rfl, .inl ⟨rfl, rfl⟩⟩
 have HM0 : Hid (MpsQ w2 R X [] 0) := fun j hj => absurd hj (Nat.not_lt_zero _)
 have HB0 : Hid (Below w2.heap.size w2 w2) := Below.refl _ _
 have HFL : Hid ((fillC R X p.blks.length).length = p.blks.length) := by show _ = _; rw [fillC_len]; exact HXL.out
 have HFA : Hid (∀ i, i < p.blks.length → (fillC R X p.blks.length).getD i none = some (atB R X i)) := fun i hi => by
  rw [fillC_at R X p.blks.length i (by rw [HXL.out]; exact hi), if_pos hi]; rfl
 have HATO : Hid (∀ i, i < p.blks.length → (atB R X i).length = R ∧ RoOk (atB R X i)) := fun i hi => by
  have hr := HT.out.row i (by rw [HFL.out]; exact hi)
  rw [HFA.out i hi] at hr
  cases hx : rs.getD i none with
  | none => rw [hx] at hr; exact hr.elim
  | some x => rw [hx] at hr; exact ⟨hr.2.1, hr.2.2.1⟩
 go_loopw [3, 12] (fun sv i wr => ∃ (k : Nat) (bs : List Nat), k ≤ p.blks.length ∧ i = .int .i64 (k : Int) ∧ bs.length = k ∧ Hid (OwnM wr w2.heap.size sv bs) ∧ Hid (MpsQ wr R X bs k) ∧ Hid (Below w2.heap.size w2 wr)) (fun _ i _ => p.blks.length - (intOf i).toNat)
 case atStart => exact ⟨0, [], Nat.zero_le _, rfl, rfl, HO0, HM0, HB0⟩
 case round =>
  clear HO0 HM0 HB0
  obtain ⟨k, bs, hk, rfl, hbs, HO, HM, HB⟩ := hrel
  by_cases hlt : k < p.blks.length
  ·have g1 : decide (k < p.blks.length) = true := decide_eq_true hlt
   have g2 : decide ((k : Int) < (p.blks.length : Int)) = true := decide_eq_true (by omega)
   have HTR := HT.out.below HB.out
   have hkF : k < (fillC R X p.blks.length).length := by rw [HFL.out]; exact hlt
   obtain ⟨tc, tf⟩ := HTR.cell hkF
   have hri := HTR.row k hkF
   obtain ⟨g9, c9, hrn⟩ := HTR.isOne hkF (HFA.out k hlt)
   rw [hrn, HFA.out k hlt] at hri
   obtain ⟨hq, htl, hok, hg9⟩ := hri
   rw [hrn] at tc
   unfold rowVC at tc
   dsimp only at hq tc
   have HQ := Lib.hid hq
   have hcR := hq.at.1
   have hcM := hq.at.2.1
   rw [htl] at hcR
   unfold maxLen at hcM
   have HTL := Lib.hid htl
   have lgt := HTR.lt
   clear HTR tf hrn hq htl hok hg9 hkF
   obtain ⟨t, ht⟩ : ∃ t, atB R X k = t := ⟨_, rfl⟩
   have HAT := Lib.hid ht
   rw [ht] at HQ HTL
   clear ht
   have hmm := @run_makeMap Try.prog
   go_wp2_with fail
   clear hmm
   obtain ⟨wq, rfl⟩ : ∃ wq, wq = wr := ⟨wr, rfl⟩
   have hmade := MapU.made wq
   obtain ⟨W0, hW0⟩ : ∃ W0, W0 = wq.alloc (.map #[] 0) := ⟨_, rfl⟩
   have HI0 : Hid (MapU W0 wq.heap.size (cntC t 0) (mpC t 0)) := by
    rw [mpC_zero, hW0]; exact hmade
   have HC0 : Hid (Below wq.heap.size wq W0) := by
    show Below _ _ _
    rw [hW0]; exact below_alloc wq _
   rw [← hW0]
   clear hW0 hmade
   go_wp2_with fail
   go_loopw [19] (fun i wr2 => ∃ (j : Nat), j ≤ R ∧ i = .int .i64 (j : Int) ∧ Hid (MapU wr2 wq.heap.size (cntC t j) (mpC t j)) ∧ Hid (Below wq.heap.size wq wr2)) (fun i _ => R - (intOf i).toNat)
   case atStart => exact ⟨0, Nat.zero_le _, rfl, HI0, HC0⟩
   case round =>
    clear HI0 HC0 tc lgt
    obtain ⟨j, hj, rfl, HI, HC⟩ := hrel
    by_cases hjl : j < R
    ·have g3 : decide (j < R) = true := decide_eq_true hjl
     have g4 : decide ((j : Int) < (R : Int)) = true := decide_eq_true (by omega)
     have hjt : j < t.length := by rw [HTL.out]; exact hjl
     obtain ⟨c0, c1⟩ := (HQ.out.below HC.out).rd.cell j hjt
     have lg9 := World.block_lt_of_cell? _ _ c0
     have hcn : cntC t j ≤ j := Nat.le_trans List.countP_le_length (by simp; omega)
     cases hoj : t.getD j none with
     | none =>
      rw [hoj] at c0 c1
      simp only [Option.isSome_none, Option.getD_none] at c0 c1
      have HMP := Lib.hid (mpC_none hjt hoj)
      clear hoj hjt
      go_wp2_with fail
      go_roundw
      case rel => exact ⟨j + 1, hjl, by go_num, by rw [HMP.out.1, HMP.out.2]; exact HI.out.grow (below_alloc _ _), HC.out.alloc (by have := HC.out.size; omega) _⟩
      case measure => simp [intOf]; omega
     | some z =>
      rw [hoj] at c0 c1
      simp only [Option.isSome_some, Option.getD_some] at c0 c1
      have HMP := Lib.hid (mpC_some hjt hoj)
      clear hoj hjt
      go_wp2_with (at_mapUpdate; refine MapU.put (HI.out.grow (below_alloc _ _)) (j : Int) z (WalkArith.wf_i64 (by omega)) (by unfold maxLen; omega) HMP.out.2.2 rfl _ _ _ rfl rfl rfl rfl ?_; intro w4 hs4 hg4)
      rw [← HMP.out.1, ← HMP.out.2.1] at hs4
      have HI4 := Lib.hid hs4
      have HC4 : Hid (Below wq.heap.size wq w4) := (HC.out.alloc (by have := HC.out.size; omega) _).grown hg4 (by have := HC.out.size; simp; omega) (fun q hq => by cases hq; exact Nat.le_refl _)
      clear hs4 hg4
      go_wp2_with fail
      go_roundw
      case rel => exact ⟨j + 1, hjl, by go_num, HI4, HC4⟩
      case measure => simp [intOf]; omega
    ·obtain rfl : R = j := by omega
     have HWA : Hid (Below wq.heap.size wq (wr.alloc (.cells #[.map (some wq.heap.size)] 81))) := HC.out.alloc (by have := HC.out.size; omega) _
     have HOA : Hid (OwnM (wr.alloc (.cells #[.map (some wq.heap.size)] 81)) w2.heap.size u3 bs) := own_below HO.out HWA.out
     have HBA : Hid (Below w2.heap.size w2 (wr.alloc (.cells #[.map (some wq.heap.size)] 81))) := HB.out.trans (HWA.out.mono HB.out.size)
     go_wp2_with (at_builtin; refine appG 76 81 info_mapU Try.underlying76 rfl (by decide) (by decide) [.map (some wq.heap.size)] rfl (by simp [Value.oneCell']) HOA.out rfl rfl rfl rfl (cell_new1 _ _ _ _ rfl) (by omega) (by have := HBA.out.size; omega) ?_; intro o6 w6 O6 G6 D6)
     have HO6 : Hid (OwnM w6 w2.heap.size o6 (bs ++ [wq.heap.size])) := by
      show OwnM _ _ _ _
      unfold OwnM
      rw [List.length_append, List.map_append]
      exact O6
     have HM6 : Hid (MpsQ w6 R X (bs ++ [wq.heap.size]) (k + 1)) := fun i hi => by
      by_cases e : i < k
      ·rw [show (bs ++ [wq.heap.size]).getD i 0 = bs.getD i 0 by simp [List.getD, List.getElem?_append_left (show i < bs.length by omega)]]
       have h1 := (HM.out i e).grow HWA.out
       exact h1.kept G6 (h1.ne HOA.out)
      ·obtain rfl : k = i := by omega
       rw [show (bs ++ [wq.heap.size]).getD k 0 = wq.heap.size by rw [← hbs]; simp [List.getD]]
       rw [HAT.out, show cAt t = mpC t R by funext x; rw [← mpC_all t x, HTL.out]]
       have h1 := HI.out.grow (below_alloc wr (.cells #[.map (some wq.heap.size)] 81))
       exact h1.kept G6 (h1.ne HOA.out)
     have HB6 : Hid (Below w2.heap.size w2 w6) := HBA.out.grown G6 HBA.out.size (fun g e => (own_lt HOA.out e).1)
     clear O6 G6 D6 HWA HOA HBA HI HC HM HO HB
     go_wp2_with fail
     go_roundw
     case rel => exact ⟨k + 1, bs ++ [wq.heap.size], hlt, by go_num, by rw [List.length_append, hbs]; rfl, HO6, HM6, HB6⟩
     case measure => simp [intOf]; omega
  ·obtain rfl : k = p.blks.length := by omega
   go_wp2_with fail
   go_ret
   exact ⟨_, bs, X, rfl, HXL.out, hbs, HRU.out, HST.out, HO.out.base, HM.out, HATO.out, B2.out.trans (HB.out.mono B2.out.size)⟩
end Go.Proofs.Ytkhfddodmjnecaa
