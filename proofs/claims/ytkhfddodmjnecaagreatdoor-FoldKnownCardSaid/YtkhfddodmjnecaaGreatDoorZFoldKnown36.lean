/-
 A row of the document is copied (rushlightref17.copied).; Outcomes compared; the worked example of layer 14.; The document's functions of words and places.
-/
import Derived.Test.YtkhfddodmjnecaaGreatDoorZFoldKnown35
import Derived.Test.YtkhfddodmjnecaaGreatDoorZFoldKnown15
import Derived.Test.YtkhfddodmjnecaaGreatDoorZFoldKnown27
import Derived.Test.YtkhfddodmjnecaaGreatDoorZFoldKnown19
import Derived.Test.YtkhfddodmjnecaaGreatDoorZFoldKnown13

set_option linter.all false
namespace Go.Proofs.YtkhfddodmjnecaaGreatDoor
open Go.ChangeShapes Go.WideShapes Go.ChangeAt Go.RowKit
set_option maxHeartbeats 4000000
set_option maxRecDepth 100000
set_option linter.unusedVariables false

/-- a row of the document that one may write -/
def OwRw (w : World) (B : Nat) (v : Value) (seen : Bool) (t : Ro) : Prop := ∃ vh vn, v = .agg #[.bool seen, vh, vn] ∧ w.ownsRow B 4 1 vh t.length (hasV t) ∧ w.ownsRow B 45 1 vn t.length (numV t)
/-- while a row is copied: what is ahead of B stays; the copy's struct is block B -/
structure CpM (W0 : World) (B : Nat) (S : Bool) (t : Ro) (wr : World) (vh vn : Value) (i j : Nat) : Prop where
 bx : wr.heap[B]? = some (.cells #[.bool S, vh, vn] 40)
 oh : wr.ownsRow (B + 1) 4 1 vh i (hasV (t.take i))
 on : wr.ownsRow (B + 1) 45 1 vn j (numV (t.take j))
 bl : Below B W0 wr
theorem info_u32 : (Tryz.prog.info? 45).map (fun i => (i.zero, i.size, i.bytes)) = some (some (.int .u32 0), 1, 4) := by kernel_rfl
theorem heap3 (w : World) (A B C : Obj) : ((((w.alloc A).alloc B).alloc C).heap[w.heap.size]? = some A) ∧ ((((w.alloc A).alloc B).alloc C).heap[w.heap.size + 1]? = some B) ∧ ((((w.alloc A).alloc B).alloc C).heap[w.heap.size + 2]? = some C) := by
 have s1 : (w.alloc A).heap.size = w.heap.size + 1 := by simp
 have s2 : ((w.alloc A).alloc B).heap.size = w.heap.size + 2 := by simp
 refine ⟨?_, ?_, ?_⟩
 ·rw [(below_alloc ((w.alloc A).alloc B) C).block _ (by omega), (below_alloc (w.alloc A) B).block _ (by omega)]
  exact heap_alloc_new w A
 ·rw [(below_alloc ((w.alloc A).alloc B) C).block _ (by omega), ← s1]
  exact heap_alloc_new (w.alloc A) B
 ·rw [← s2]
  exact heap_alloc_new ((w.alloc A).alloc B) C
theorem row_not {w : World} {B m s b : Nat} {e ty : TypeId} {v : Value} {xs : List Value} {cs : Array Value} (h : w.ownsRow B e s v m xs) (hb : w.heap[b]? = some (.cells cs ty)) (hne : e ≠ ty) : v.ownBlock ≠ some b := by
 obtain ⟨-, ⟨rfl, -⟩ | ⟨g', cap, cur, rfl, -, hg, -⟩⟩ := h
 ·intro e2; cases e2
 ·intro e2
  simp only [Value.ownBlock, Option.some.injEq] at e2
  subst e2
  rw [hb] at hg
  simp only [Option.some.injEq, Obj.cells.injEq] at hg
  exact hne hg.2.1.symm
theorem ow_form {w : World} {B n s : Nat} {e : TypeId} {v : Value} {xs : List Value} (h : w.ownsRow B e s v n xs) : ∃ a c, v = .slice a n c := by
 obtain ⟨-, ⟨rfl, rfl⟩ | ⟨g, cap, cur, rfl, -⟩⟩ := h
 ·exact ⟨none, 0, rfl⟩
 ·exact ⟨_, _, rfl⟩
theorem ow_base {w : World} {B B' n s : Nat} {e : TypeId} {v : Value} {xs : List Value} (h : w.ownsRow B e s v n xs) (hb : B' ≤ B) : w.ownsRow B' e s v n xs := by
 obtain ⟨hl, h | ⟨g, cap, cur, e1, e2, r⟩⟩ := h
 ·exact ⟨hl, .inl h⟩
 ·exact ⟨hl, .inr ⟨g, cap, cur, e1, Nat.le_trans hb e2, r⟩⟩
theorem ow_set {w : World} {B n s b i : Nat} {e : TypeId} {v u : Value} {xs : List Value} (h : w.ownsRow B e s v n xs) (hb : b < B) : (w.setCell ⟨b, i, none⟩ u).ownsRow B e s v n xs :=
 World.ownsRow.kept h (but_grownK (But.setCell b i w u)) (.inr (by
  obtain ⟨-, ⟨rfl, -⟩ | ⟨g, cap, cur, rfl, hg, -⟩⟩ := h
  ·intro e; cases e
  ·intro e
   simp only [Value.ownBlock, Option.some.injEq] at e
   omega))
theorem ow_ge {w : World} {B n s g : Nat} {e : TypeId} {v : Value} {xs : List Value} (h : w.ownsRow B e s v n xs) (hv : v.ownBlock = some g) : B ≤ g := by
 obtain ⟨-, ⟨rfl, -⟩ | ⟨g', cap, cur, rfl, hg, -⟩⟩ := h
 ·cases hv
 ·cases hv; exact hg
theorem ow_apart {w : World} {B B' n n' s s' : Nat} {e e' : TypeId} {v v' : Value} {xs xs' : List Value} (h : w.ownsRow B e s v n xs) (h' : w.ownsRow B' e' s' v' n' xs') (hne : e ≠ e') : v'.ownBlock = none ∨ v'.ownBlock ≠ v.ownBlock := by
 obtain ⟨-, ⟨rfl, -⟩ | ⟨g', cap, cur, rfl, -, hg, -⟩⟩ := h'
 ·exact .inl rfl
 ·exact .inr fun e2 => row_not h hg hne e2.symm
theorem hasV_take {t : Ro} {k : Nat} (h : k < t.length) : hasV (t.take (k + 1)) = hasV (t.take k) ++ [.bool (t.getD k none).isSome] := by
 unfold hasV
 rw [List.take_succ, List.getElem?_eq_getElem h, List.map_append]
 simp [List.getD, h]
theorem numV_take {t : Ro} {k : Nat} (h : k < t.length) : numV (t.take (k + 1)) = numV (t.take k) ++ [.int .u32 ((t.getD k none).getD 0)] := by
 unfold numV
 rw [List.take_succ, List.getElem?_eq_getElem h, List.map_append]
 simp [List.getD, h]
theorem CpM.has {W0 wr W w' : World} {B k j : Nat} {S sk : Bool} {t : Ro} {vh vn v' : Value} (h : CpM W0 B S t wr vh vn k j) (hk : k < t.length) (hsk : (t.getD k none).isSome = sk) (hb : Below wr.heap.size wr W) (hB : B ≤ W0.heap.size) (h1 : w'.ownsRow (B + 1) 4 1 v' (k + 1) (hasV (t.take k) ++ [.bool sk])) (hg : W.grownBy w' vh.ownBlock) : CpM W0 B S t (w'.setCell ⟨B, 1, none⟩ v') v' vn (k + 1) j := by
 have lB := (Array.getElem?_eq_some_iff.1 h.bx).1
 have hsz := hb.size
 have oh := own_below h.oh hb
 have on := own_below h.on hb
 have bx := (hg.block B (by omega) (fun e => by have := ow_ge h.oh e.symm; omega)).trans ((hb.block _ lB).trans h.bx)
 have on2 := on.kept hg (ow_apart oh on (by decide))
 refine ⟨?_, ?_, ow_set on2 (Nat.lt_succ_self _), ?_⟩
 ·rw [heap_setCell_same _ _ _ _ _ _ bx]; rfl
 ·rw [hasV_take hk, hsk]
  exact ow_set h1 (Nat.lt_succ_self _)
 ·exact ((h.bl.trans (hb.mono (by omega))).grown hg (by omega) (fun g e => by have := ow_ge h.oh e; omega)).setCell (p := ⟨B, 1, none⟩) (Nat.le_refl _) _
theorem CpM.num {W0 wr W w' : World} {B k j : Nat} {S : Bool} {z : Int} {t : Ro} {vh vn v' : Value} (h : CpM W0 B S t wr vh vn k j) (hk : j < t.length) (hz : (t.getD j none).getD 0 = z) (hb : Below wr.heap.size wr W) (hB : B ≤ W0.heap.size) (h1 : w'.ownsRow (B + 1) 45 1 v' (j + 1) (numV (t.take j) ++ [.int .u32 z])) (hg : W.grownBy w' vn.ownBlock) : CpM W0 B S t (w'.setCell ⟨B, 2, none⟩ v') vh v' k (j + 1) := by
 have lB := (Array.getElem?_eq_some_iff.1 h.bx).1
 have hsz := hb.size
 have oh := own_below h.oh hb
 have on := own_below h.on hb
 have bx := (hg.block B (by omega) (fun e => by have := ow_ge h.on e.symm; omega)).trans ((hb.block _ lB).trans h.bx)
 have oh2 := oh.kept hg (ow_apart on oh (by decide))
 refine ⟨?_, ow_set oh2 (Nat.lt_succ_self _), ?_, ?_⟩
 ·rw [heap_setCell_same _ _ _ _ _ _ bx]; rfl
 ·rw [numV_take hk, hz]
  exact ow_set h1 (Nat.lt_succ_self _)
 ·exact ((h.bl.trans (hb.mono (by omega))).grown hg (by omega) (fun g e => by have := ow_ge h.on e; omega)).setCell (p := ⟨B, 2, none⟩) (Nat.le_refl _) _
theorem copied_c (v : Value) (o : Option Ro) (w : World) (h : RwV w v o) (hl : (o.getD []).length ≤ 1000) :
  Calls Tryz.prog 38 #[v] w fun e w' => ∃ v', e = .returned v' ∧ OwRw w' w.heap.size v' o.isSome (o.getD []) ∧ Below w.heap.size w w' := by
 obtain ⟨vh, vn, rfl, hh, hn⟩ := h
 generalize o.isSome = S at *
 generalize o.getD [] = t at *
 obtain ⟨ah, ch, rfl, h1, h2, h3⟩ := hh
 obtain ⟨an, cn, rfl, n1, n2, n3⟩ := hn
 have hhl : (hasV t).length = t.length := by simp [hasV]
 have hnl : (numV t).length = t.length := by simp [numV]
 rw [hhl] at h1 h3 ⊢
 rw [hnl] at n1 n3 ⊢
 unfold maxLen at h2 n2
 have H3 := Lib.hid h3
 have N3 := Lib.hid n3
 clear h3 n3 hhl hnl
 go_enter Tryz.func38, Tryz.ntmps38
 go_wp2_with fail
 obtain ⟨W0, hW0⟩ : ∃ W0, W0 = (((w.alloc (.cells #[.bool S, .slice ah t.length ch, .slice an t.length cn] 40)).alloc (.cells #[.bool false, .slice none 0 0, .slice none 0 0] 40)).alloc (.cells #[.bool S, .slice none 0 0, .slice none 0 0] 40)) := ⟨_, rfl⟩
 have hz : W0.heap.size = w.heap.size + 3 := by rw [hW0]; simp
 have HA : Hid (W0.heap[w.heap.size]? = some (.cells #[.bool S, .slice ah t.length ch, .slice an t.length cn] 40)) := by
  show _ = _
  rw [hW0]; exact (heap3 w _ _ _).1
 have HR : Hid (W0.heap[w.heap.size + 1]? = some (.cells #[.bool false, .slice none 0 0, .slice none 0 0] 40)) := by
  show _ = _
  rw [hW0]; exact (heap3 w _ _ _).2.1
 have HX : Hid (W0.heap[w.heap.size + 2]? = some (.cells #[.bool S, .slice none 0 0, .slice none 0 0] 40)) := by
  show _ = _
  rw [hW0]; exact (heap3 w _ _ _).2.2
 have HB0 : Hid (Below w.heap.size w W0) := by
  show Below _ _ _
  rw [hW0]; exact (below_alloc w _).alloc (by simp) _ |>.alloc (by simp; omega) _
 rw [← hW0]
 clear hW0
 have HH : Hid (∀ W, Below (w.heap.size + 2) W0 W → ∀ i, i < t.length → ∃ b o, ah = some ⟨b, o, none⟩ ∧ b < w.heap.size ∧ W.cell? ⟨b, o + i, none⟩ = some (.bool (t.getD i none).isSome)) := fun W hW i hi => by
  obtain ⟨b, o, e1, e2⟩ := H3.out i hi
  have e3 : (hasV t)[i]? = some (.bool (t.getD i none).isSome) := by simp [hasV, List.getD, hi]
  rw [e3] at e2
  exact ⟨b, o, e1, World.block_lt_of_cell? _ _ e2, (hW.cell (p := ⟨b, o + i, none⟩) (by have := World.block_lt_of_cell? _ _ e2; dsimp only at this ⊢; omega)).trans (Ext.below HB0.out _ _ e2)⟩
 have HN : Hid (∀ W, Below (w.heap.size + 2) W0 W → ∀ i, i < t.length → ∃ b o, an = some ⟨b, o, none⟩ ∧ b < w.heap.size ∧ W.cell? ⟨b, o + i, none⟩ = some (.int .u32 ((t.getD i none).getD 0))) := fun W hW i hi => by
  obtain ⟨b, o, e1, e2⟩ := N3.out i hi
  have e3 : (numV t)[i]? = some (.int .u32 ((t.getD i none).getD 0)) := by simp [numV, List.getD, hi]
  rw [e3] at e2
  exact ⟨b, o, e1, World.block_lt_of_cell? _ _ e2, (hW.cell (p := ⟨b, o + i, none⟩) (by have := World.block_lt_of_cell? _ _ e2; dsimp only at this ⊢; omega)).trans (Ext.below HB0.out _ _ e2)⟩
 have M0 : Hid (CpM W0 (w.heap.size + 2) S t W0 (.slice none 0 0) (.slice none 0 0) 0 0) := ⟨HX.out, ⟨rfl, .inl ⟨rfl, rfl⟩⟩, ⟨rfl, .inl ⟨rfl, rfl⟩⟩, Below.refl _ _⟩
 go_loopw [4] (fun i wr => ∃ (k : Nat) (vh vn : Value), k ≤ t.length ∧ i = .int .i64 (k : Int) ∧ Hid (CpM W0 (w.heap.size + 2) S t wr vh vn k k)) (fun i _ => t.length - (intOf i).toNat)
 case atStart => exact ⟨0, _, _, Nat.zero_le _, rfl, M0⟩
 case round =>
  clear M0
  obtain ⟨k, vh, vn, hk, rfl, M⟩ := hrel
  obtain ⟨q0, q1, q2, lq⟩ := cl3 ((M.out.bl.block _ (by omega)).trans HA.out)
  obtain ⟨a1, c1, rfl⟩ := ow_form M.out.oh
  obtain ⟨a2, c2, rfl⟩ := ow_form M.out.on
  obtain ⟨x0, x1, x2, lx⟩ := cl3 M.out.bx
  by_cases hlt : k < t.length
  ·have g1 : decide (k < t.length) = true := decide_eq_true hlt
   have g2 : decide ((k : Int) < (t.length : Int)) = true := decide_eq_true (by omega)
   obtain ⟨bh, oh, rfl, lbw, ch0⟩ := HH.out wr M.out.bl k hlt
   have lbh := World.block_lt_of_cell? _ _ ch0
   obtain ⟨sk, hsk⟩ : ∃ sk, (t.getD k none).isSome = sk := ⟨_, rfl⟩
   rw [hsk] at ch0
   have HSK := Lib.hid hsk
   clear hsk
   go_wp2_with fail
   refine wp_region_game (fun x => x = w.heap.size ∨ x = w.heap.size + 2 ∨ x = bh) (by kernel_rfl) ?_
   show wpE _ _ _ _ _ _ _ wr.drew
   refine E_mob2s [0, 1, 2, 3, 4, 5, 6] _ _ _ _ (by kernel_rfl) ?_
   simp only [List.map_cons, List.map_nil, List.getElem?_toArray, List.getElem?_cons_succ, List.getElem?_cons_zero, Option.getD_some, List.size_toArray, List.length_cons, List.length_nil, Nat.reduceAdd, Nat.reduceSub]
   repeat (go_big_quiet_step (fail))
   refine wpQuiet_nil ?_
   refine E_loud1 7 _ rfl (by kernel_rfl) ?_
   simp only [List.getElem_toArray, List.getElem_cons_succ, List.getElem_cons_zero]
   go_wp2_with fail
   refine ⟨keep_below (below_alloc _ _) (fun x hx => by rcases hx with rfl | rfl | rfl <;> (simp; omega)), ?_⟩
   have B6 : Hid (Below wr.heap.size wr (wr.alloc (.cells #[.bool sk] 4)).drew) := (below_alloc wr _).drew
   have OH6 := Lib.hid (own_below M.out.oh B6.out)
   refine E_loud1 8 _ rfl (by kernel_rfl) ?_
   simp only [List.getElem_toArray, List.getElem_cons_succ, List.getElem_cons_zero]
   refine appG 38 4 info_bool Tryz.underlying38 rfl (by decide) (by decide) [.bool sk] rfl (by simp [Value.oneCell']) OH6.out rfl rfl rfl rfl (cell_new1 _ _ _ _ rfl) (by omega) (by simp; omega) ?_
   intro o6 w6 O6 G6 D6
   have HK6 : Hid (Keep (fun x => x = w.heap.size ∨ x = w.heap.size + 2 ∨ x = bh) (wr.alloc (.cells #[.bool sk] 4)).drew w6) := fun x p hx => by
    refine World.cell?_of_block (a := ⟨x, p, none⟩) (G6.block x (by rcases hx with rfl | rfl | rfl <;> (simp; omega)) (fun e => ?_))
    have := ow_ge OH6.out e.symm
    rcases hx with rfl | rfl | rfl <;> omega
   obtain ⟨a6, c6, rfl⟩ := ow_form O6
   have hx6 := (G6.block (w.heap.size + 2) (by simp; omega) (fun e => by have := ow_ge OH6.out e.symm; omega)).trans ((B6.out.block _ lx).trans M.out.bx)
   obtain ⟨y0, y1, y2, ly⟩ := cl3 hx6
   have fy := frozen_of_heap hx6 1
   go_wp2_with fail
   refine ⟨HK6.out, ?_⟩
   refine E_mob2s [9] _ _ _ _ (by kernel_rfl) ?_
   simp only [List.map_cons, List.map_nil, List.getElem?_toArray, List.getElem?_cons_succ, List.getElem?_cons_zero, Option.getD_some, List.size_toArray, List.length_cons, List.length_nil, Nat.reduceAdd, Nat.reduceSub]
   repeat (go_big_quiet_step (fail))
   refine wpQuiet_nil ?_
   refine E_last 10 _ rfl (by kernel_rfl) ?_
   simp only [List.getElem_toArray, List.getElem_cons_succ, List.getElem_cons_zero]
   go_wp2_with fail
   refine E_done (by kernel_rfl) ?_ _
   have M7 := Lib.hid (M.out.has hlt HSK.out B6.out (by omega) O6 G6)
   clear M HK6 B6 OH6 hx6 y0 y1 y2 ly fy O6 G6 D6 q0 q1 q2 lq x0 x1 x2 lx ch0 lbh HSK
   generalize w6.setCell ⟨w.heap.size + 2, 1, none⟩ (.slice a6 (k + 1) c6) = w7 at *
   obtain ⟨q0, q1, q2, lq⟩ := cl3 ((M7.out.bl.block _ (by omega)).trans HA.out)
   obtain ⟨x0, x1, x2, lx⟩ := cl3 M7.out.bx
   obtain ⟨bn, on, rfl, lbn, ch0⟩ := HN.out w7 M7.out.bl k hlt
   have lbh := World.block_lt_of_cell? _ _ ch0
   obtain ⟨sz, hsz⟩ : ∃ sz, (t.getD k none).getD 0 = sz := ⟨_, rfl⟩
   rw [hsz] at ch0
   have HSZ := Lib.hid hsz
   clear hsz
   go_wp2_with fail
   refine wp_region_game (fun x => x = w.heap.size ∨ x = w.heap.size + 2 ∨ x = bn) (by kernel_rfl) ?_
   show wpE _ _ _ _ _ _ _ w7.drew
   refine E_mob2s [0, 1, 2, 3, 4, 5, 6] _ _ _ _ (by kernel_rfl) ?_
   simp only [List.map_cons, List.map_nil, List.getElem?_toArray, List.getElem?_cons_succ, List.getElem?_cons_zero, Option.getD_some, List.size_toArray, List.length_cons, List.length_nil, Nat.reduceAdd, Nat.reduceSub]
   repeat (go_big_quiet_step (fail))
   refine wpQuiet_nil ?_
   refine E_loud1 7 _ rfl (by kernel_rfl) ?_
   simp only [List.getElem_toArray, List.getElem_cons_succ, List.getElem_cons_zero]
   go_wp2_with fail
   refine ⟨keep_below (below_alloc _ _) (fun x hx => by rcases hx with rfl | rfl | rfl <;> (simp; omega)), ?_⟩
   have B6 : Hid (Below w7.heap.size w7 (w7.alloc (.cells #[.int .u32 sz] 45)).drew) := (below_alloc w7 _).drew
   have OH6 := Lib.hid (own_below M7.out.on B6.out)
   refine E_loud1 8 _ rfl (by kernel_rfl) ?_
   simp only [List.getElem_toArray, List.getElem_cons_succ, List.getElem_cons_zero]
   refine appG 27 45 info_u32 Tryz.underlying27 rfl (by decide) (by decide) [.int .u32 sz] rfl (by simp [Value.oneCell']) OH6.out rfl rfl rfl rfl (cell_new1 _ _ _ _ rfl) (by omega) (by simp; omega) ?_
   intro o8 w8 O6 G6 D6
   have HK6 : Hid (Keep (fun x => x = w.heap.size ∨ x = w.heap.size + 2 ∨ x = bn) (w7.alloc (.cells #[.int .u32 sz] 45)).drew w8) := fun x p hx => by
    refine World.cell?_of_block (a := ⟨x, p, none⟩) (G6.block x (by rcases hx with rfl | rfl | rfl <;> (simp; omega)) (fun e => ?_))
    have := ow_ge OH6.out e.symm
    rcases hx with rfl | rfl | rfl <;> omega
   obtain ⟨a8, c8, rfl⟩ := ow_form O6
   have hx6 := (G6.block (w.heap.size + 2) (by simp; omega) (fun e => by have := ow_ge OH6.out e.symm; omega)).trans ((B6.out.block _ lx).trans M7.out.bx)
   obtain ⟨y0, y1, y2, ly⟩ := cl3 hx6
   have fy := frozen_of_heap hx6 2
   go_wp2_with fail
   refine ⟨HK6.out, ?_⟩
   refine E_mob2s [9] _ _ _ _ (by kernel_rfl) ?_
   simp only [List.map_cons, List.map_nil, List.getElem?_toArray, List.getElem?_cons_succ, List.getElem?_cons_zero, Option.getD_some, List.size_toArray, List.length_cons, List.length_nil, Nat.reduceAdd, Nat.reduceSub]
   repeat (go_big_quiet_step (fail))
   refine wpQuiet_nil ?_
   refine E_last 10 _ rfl (by kernel_rfl) ?_
   simp only [List.getElem_toArray, List.getElem_cons_succ, List.getElem_cons_zero]
   go_wp2_with fail
   refine E_done (by kernel_rfl) ?_ _
   have M8 := Lib.hid (M7.out.num hlt HSZ.out B6.out (by omega) O6 G6)
   clear M7 HK6 B6 OH6 hx6 y0 y1 y2 ly fy O6 G6 D6 q0 q1 q2 lq x0 x1 x2 lx ch0 lbh HSZ
   go_wp2_with fail
   go_roundw
   case rel => exact ⟨k + 1, _, _, hlt, by go_num, M8⟩
   case measure => simp [intOf]; omega
  ·obtain rfl : k = t.length := by omega
   have hr := (M.out.bl.block _ (by omega)).trans HR.out
   obtain ⟨r0, r1, r2, lr⟩ := cl3 hr
   have fr0 := frozen_of_heap hr 0
   have fr1 := frozen_of_heap hr 1
   have fr2 := frozen_of_heap hr 2
   clear hr
   go_wp2_with fail
   refine bodyPost_ret (v := .agg #[.bool S, .slice a1 t.length c1, .slice a2 t.length c2]) (by simp [results, Tryz.results38, go_sem, r0, r1, r2]) rfl ?_
   have hoh := M.out.oh
   have hon := M.out.on
   rw [List.take_length] at hoh hon
   exact ⟨_, rfl, ⟨_, _, rfl, ow_base (ow_set (ow_set (ow_set hoh (by omega)) (by omega)) (by omega)) (by omega), ow_base (ow_set (ow_set (ow_set hon (by omega)) (by omega)) (by omega)) (by omega)⟩, (((HB0.out.trans (M.out.bl.mono (by omega))).setCell (p := ⟨w.heap.size + 1, 0, none⟩) (by simp) _).setCell (p := ⟨w.heap.size + 1, 1, none⟩) (by simp) _).setCell (p := ⟨w.heap.size + 1, 2, none⟩) (by simp) _⟩
end Go.Proofs.YtkhfddodmjnecaaGreatDoor

set_option linter.all false
namespace Go.Proofs.YtkhfddodmjnecaaGreatDoor
open Go.ChangeShapes Go.WideShapes Go.ChangeAt Go.RowKit
set_option maxHeartbeats 8000000
set_option linter.unusedVariables false
set_option maxRecDepth 100000

end Go.Proofs.YtkhfddodmjnecaaGreatDoor

set_option linter.all false
namespace Go.Proofs.YtkhfddodmjnecaaGreatDoor
open Go.ChangeShapes Go.WideShapes Go.ChangeAt Go.RowKit
set_option maxHeartbeats 8000000
set_option linter.unusedVariables false
set_option maxRecDepth 100000

theorem rtruth_c (b : Bool) (w : World) : Calls Tryz.prog 106 #[.bool b] w fun e w' => e = .returned (.int .u32 (bitF b)) ∧ w = w' := by
 cases b
 all_goals
  go_enter Tryz.func106, Tryz.ntmps106
  go_wp2
  go_ret
  exact ⟨rfl, rfl⟩
theorem not_xor (a : Int) (h : 0 ≤ a) (h' : a < 4294967296) : bits .xor .u32 IntKind.u32.max a = (4294967295 - a) % 4294967296 := by
 obtain ⟨x, rfl⟩ := Int.eq_ofNat_of_zero_le h
 have hx : x < 2 ^ 32 := by omega
 have e0 : bits .xor .u32 IntKind.u32.max (x : Int) = IntKind.u32.wrap (((BitVec.ofInt 32 4294967295 ^^^ BitVec.ofInt 32 (x : Int)).toNat : Nat) : Int) := rfl
 have e1 : (BitVec.ofInt 32 4294967295) = BitVec.allOnes 32 := by decide
 have e3 : (BitVec.allOnes 32 ^^^ BitVec.ofNat 32 x).toNat = 4294967295 - x := by
  rw [BitVec.allOnes_xor, BitVec.toNat_not, BitVec.toNat_ofNat, Nat.mod_eq_of_lt hx]
 rw [e0, e1, BitVec.ofInt_natCast, e3, IntKind.wrap_u32]
 omega
/-- the values among which the document chooses -/
def appL (a b : Int) : List Int := [0, (a + b) % 4294967296, (a - b) % 4294967296, (a * b) % 4294967296, divS a b, remS a b, bits .and .u32 a b, bits .or .u32 a b, bits .xor .u32 a b, shl32 a b, sar32 a b, bitF (sg a == sg b), bitF (sg a != sg b), bitF (decide (sg a < sg b)), bitF (decide (sg b < sg a)), bitF (decide (sg a ≤ sg b)), bitF (decide (sg b ≤ sg a)), (-a) % 4294967296, (4294967295 - a) % 4294967296, bitF (a == 0)]
theorem appL_fn (n : Nat) (a b : Int) (h : 0 ≤ a) (h' : a < 4294967296) (h1 : 0 ≤ b) (h1' : b < 4294967296) (hn : 1 ≤ n) (hn2 : n ≤ 19) : (appL a b).getD n 0 = fnF n a b := by
 have hc : n = 1 ∨ n = 2 ∨ n = 3 ∨ n = 4 ∨ n = 5 ∨ n = 6 ∨ n = 7 ∨ n = 8 ∨ n = 9 ∨ n = 10 ∨ n = 11 ∨ n = 12 ∨ n = 13 ∨ n = 14 ∨ n = 15 ∨ n = 16 ∨ n = 17 ∨ n = 18 ∨ n = 19 := by omega
 have hsg : (sg a == sg b) = (a == b) := by
  by_cases e : a = b
  ·subst e; simp
  ·rw [beq_eq_false_iff_ne.2 e, beq_eq_false_iff_ne.2 (fun h2 => e ((sg_inj a b h h' h1 h1').1 h2))]
 rcases hc with rfl | rfl | rfl | rfl | rfl | rfl | rfl | rfl | rfl | rfl | rfl | rfl | rfl | rfl | rfl | rfl | rfl | rfl | rfl
 ·show (a + b) % 4294967296 = fnF 1 a b
  simp [fnF]
 ·show (a - b) % 4294967296 = fnF 2 a b
  simp [fnF]
 ·show (a * b) % 4294967296 = fnF 3 a b
  simp [fnF]
 ·show divS a b = fnF 4 a b
  simp [fnF]
 ·show remS a b = fnF 5 a b
  simp [fnF]
 ·show bits .and .u32 a b = fnF 6 a b
  simp [fnF]
 ·show bits .or .u32 a b = fnF 7 a b
  simp [fnF]
 ·show bits .xor .u32 a b = fnF 8 a b
  simp [fnF]
 ·show shl32 a b = fnF 9 a b
  simp [fnF]
 ·show sar32 a b = fnF 10 a b
  simp [fnF]
 ·show bitF (sg a == sg b) = fnF 11 a b
  rw [hsg]; simp [fnF]
 ·show bitF (sg a != sg b) = fnF 12 a b
  rw [bne, hsg]; simp [fnF, bne]
 ·show bitF (decide (sg a < sg b)) = fnF 13 a b
  simp [fnF, bitF, lessS]
 ·show bitF (decide (sg b < sg a)) = fnF 14 a b
  simp [fnF, bitF, lessS]
 ·show bitF (decide (sg a ≤ sg b)) = fnF 15 a b
  simp [fnF, bitF, lessS]; split <;> split <;> omega
 ·show bitF (decide (sg b ≤ sg a)) = fnF 16 a b
  simp [fnF, bitF, lessS]; split <;> split <;> omega
 ·show (-a) % 4294967296 = fnF 17 a b
  simp [fnF]
 ·show (4294967295 - a) % 4294967296 = fnF 18 a b
  rw [← not_xor a h h']; simp [fnF]
 ·show bitF (a == 0) = fnF 19 a b
  simp [fnF]
theorem fnF_out (fn a b : Int) (h : ¬ (1 ≤ fn ∧ fn ≤ 19)) : fnF fn a b = 0 := by
 have hn : ∀ k : Int, 1 ≤ k → k ≤ 19 → fn ≠ k := fun k h1 h2 e => h ⟨e ▸ h1, e ▸ h2⟩
 unfold fnF
 simp only [hn 1 (by omega) (by omega), hn 2 (by omega) (by omega), hn 3 (by omega) (by omega), hn 4 (by omega) (by omega), hn 5 (by omega) (by omega), hn 6 (by omega) (by omega), hn 7 (by omega) (by omega), hn 8 (by omega) (by omega), hn 9 (by omega) (by omega), hn 10 (by omega) (by omega), hn 11 (by omega) (by omega), hn 12 (by omega) (by omega), hn 13 (by omega) (by omega), hn 14 (by omega) (by omega), hn 15 (by omega) (by omega), hn 16 (by omega) (by omega), hn 17 (by omega) (by omega), hn 18 (by omega) (by omega), hn 19 (by omega) (by omega), if_false]
theorem rapply_c (fn a b : Int) (w : World) (h4 : fn ≠ 4) (h5 : fn ≠ 5) (h : 0 ≤ a) (h' : a < 4294967296) (h1 : 0 ≤ b) (h1' : b < 4294967296) :
  Calls Tryz.prog 68 #[.int .i64 fn, .int .u32 a, .int .u32 b] w fun e w' => e = .returned (.tuple #[.int .u32 (fnF fn a b), .int .i64 (if 1 ≤ fn ∧ fn ≤ 19 then 0 else 1)]) ∧ Below w.heap.size w w' := by
 have HS1 := Lib.hid (fun w => rsigned_c a w h h')
 have HS2 := Lib.hid (fun w => rsigned_c b w h1 h1')
 have C1 := Lib.hid (fun w => radd_c a b w h h' h1 h1')
 have C2 := Lib.hid (fun w => rsub_c a b w h h' h1 h1')
 have C17 := Lib.hid (fun w => rsub_c 0 a w (by decide) (by decide) h h')
 have C18 := Lib.hid (fun w => rsub_c 4294967295 a w (by decide) (by decide) h h')
 have C3 := Lib.hid (fun w => rmul_c a b w h h' h1 h1')
 have C4 := Lib.hid (fun w => rdiv_c a b w h h' h1 h1')
 have C5 := Lib.hid (fun w => rrem_c a b w h h' h1 h1')
 have C9 := Lib.hid (fun w => rleft_c a b w h h' h1 h1')
 have C10 := Lib.hid (fun w => rrights_c a b w h h' h1 h1')
 have HL := Lib.hid (fun n hn hn2 => appL_fn n a b h h' h1 h1' hn hn2)
 have g4 : (fn == 4) = false := beq_eq_false_iff_ne.2 h4
 have g5 : (fn == 5) = false := beq_eq_false_iff_ne.2 h5
 clear h4 h5
 obtain ⟨E, hE⟩ : ∃ E : Int, (if 1 ≤ fn ∧ fn ≤ 19 then (0 : Int) else 1) = E := ⟨_, rfl⟩
 rw [hE]
 have HE := Lib.hid hE
 clear hE
 go_enter Tryz.func68, Tryz.ntmps68
 go_upto_region 5 with (first | (go_at_call 98; (with_reducible refine (HS1.out _).mono ?_); rintro e w1 ⟨rfl, rfl⟩) | (go_at_call 98; (with_reducible refine (HS2.out _).mono ?_); rintro e w1 ⟨rfl, rfl⟩) | (go_at_call 101; (with_reducible refine (C1.out _).mono ?_); rintro e w1 ⟨rfl, rfl⟩) | (go_at_call 102; (with_reducible refine (C2.out _).mono ?_); rintro e w1 ⟨rfl, rfl⟩) | (go_at_call 102; (with_reducible refine (C17.out _).mono ?_); rintro e w1 ⟨rfl, rfl⟩) | (go_at_call 102; (with_reducible refine (C18.out _).mono ?_); rintro e w1 ⟨rfl, rfl⟩) | (go_at_call 103; (with_reducible refine (C3.out _).mono ?_); rintro e w1 ⟨rfl, rfl⟩) | (go_at_call 66; (with_reducible refine (C4.out _).mono ?_); rintro e w1 ⟨rfl, rfl⟩) | (go_at_call 67; (with_reducible refine (C5.out _).mono ?_); rintro e w1 ⟨rfl, rfl⟩) | (go_at_call 104; (with_reducible refine (C9.out _).mono ?_); rintro e w1 ⟨rfl, nq, rfl⟩) | (go_at_call 105; (with_reducible refine (C10.out _).mono ?_); rintro e w1 ⟨rfl, rfl⟩) | (go_at_call 106; (with_reducible refine (rtruth_c _ _).mono ?_); rintro e w1 ⟨rfl, rfl⟩))
 obtain ⟨W1, hW1⟩ : ∃ W1, W1 = (w.drewN nq).alloc (.cells #[.int .u32 (0), .int .u32 ((a + b) % 4294967296), .int .u32 ((a - b) % 4294967296), .int .u32 (a * b % 4294967296), .int .u32 (divS a b), .int .u32 (remS a b), .int .u32 (bits .and .u32 a b), .int .u32 (bits .or .u32 a b), .int .u32 (bits .xor .u32 a b), .int .u32 (shl32 a b), .int .u32 (sar32 a b), .int .u32 (bitF (sg a == sg b)), .int .u32 (bitF (sg a != sg b)), .int .u32 (bitF (decide (sg a < sg b))), .int .u32 (bitF (decide (sg b < sg a))), .int .u32 (bitF (decide (sg a ≤ sg b))), .int .u32 (bitF (decide (sg b ≤ sg a))), .int .u32 (-a % 4294967296), .int .u32 ((4294967295 - a) % 4294967296), .int .u32 (bitF (a == 0))] 45) := ⟨_, rfl⟩
 rw [← hW1]
 have HH : Hid (W1.heap[w.heap.size]? = some (.cells ((appL a b).map (Value.int .u32)).toArray 45 (0, 0))) := by
  show _ = _
  rw [hW1]; exact heap_alloc_new (w.drewN nq) _
 have HB : Hid (Below w.heap.size w W1) := by rw [hW1]; exact (show Below w.heap.size w (w.drewN nq) from ⟨rfl, rfl, rfl, Nat.le_refl _, fun _ _ => rfl⟩).trans (below_alloc (w.drewN nq) _)
 have hlb : w.heap.size < W1.heap.size := (Array.getElem?_eq_some_iff.1 HH.out).1
 clear hW1 HS1 HS2 C1 C2 C17 C18 C3 C4 C5 C9 C10
 by_cases hi : 1 ≤ fn ∧ fn ≤ 19
 ·have HE0 : Hid (E = 0) := by show _ = _; rw [← HE.out, if_pos hi]
  obtain ⟨hi1, hi2⟩ := hi
  obtain ⟨n, rfl⟩ := Int.eq_ofNat_of_zero_le (show 0 ≤ fn by omega)
  have hv := HL.out n (by omega) (by omega)
  have hc0 := cell_of_heap HH.out n
  have hc : W1.cell? ⟨w.heap.size, n, none⟩ = some (.int .u32 (fnF (n : Int) a b)) := by
   rw [hc0, ← hv]
   have hl : n < (appL a b).length := by show n < 20; omega
   simp [List.getD, hl]
  have k1 : decide ((n : Int) < 1) = false := decide_eq_false (by omega)
  have k2 : decide ((20 : Int) ≤ (n : Int)) = false := decide_eq_false (by omega)
  have hn20 : n < 20 := by omega
  have k3 : decide (20 ≤ n) = false := decide_eq_false (by omega)
  have k4 : decide (n < 1) = false := decide_eq_false (by omega)
  have k5 : decide (n = 0) = false := decide_eq_false (by omega)
  have k6 : 1 ≤ n := by omega
  clear hv hc0
  go_wp2_with fail
  go_ret2
  exact ⟨by rw [HE0.out]; rfl, HB.out⟩
 ·have HE1 : Hid (E = 1) := by show _ = _; rw [← HE.out, if_neg hi]
  have HF0 := Lib.hid (fnF_out fn a b hi)
  by_cases hi1 : fn < 1
  ·have k1 : decide (fn < 1) = true := decide_eq_true hi1
   clear hi
   go_wp2_with fail
   go_ret2
   exact ⟨by rw [HE1.out, HF0.out]; rfl, HB.out⟩
  ·have k1 : decide (fn < 1) = false := decide_eq_false hi1
   have k2 : decide ((20 : Int) ≤ fn) = true := decide_eq_true (by omega)
   clear hi
   go_wp2_with fail
   go_ret2
   exact ⟨by rw [HE1.out, HF0.out]; rfl, HB.out⟩
theorem rfn_c (fn a b : Int) (w : World) (h : 0 ≤ a) (h' : a < 4294967296) (h1 : 0 ≤ b) (h1' : b < 4294967296) :
  Calls Tryz.prog 40 #[.int .i64 fn, .int .u32 a, .int .u32 b] w fun e w' => e = .returned (.int .u32 (fnF fn a b)) ∧ Below w.heap.size w w' := by
 by_cases h4 : fn = 4
 ·have C4 := Lib.hid (fun w => rdiv_c a b w h h' h1 h1')
  have HF : Hid (fnF fn a b = divS a b) := show _ = _ by subst h4; simp [fnF]
  rw [HF.out]
  have g : (fn == 4) = true := beq_iff_eq.2 h4
  clear h4
  go_enter Tryz.func40, Tryz.ntmps40
  go_wp2_with (go_at_call 66; refine (C4.out _).mono ?_; rintro e w1 ⟨rfl, rfl⟩)
  go_ret
  exact ⟨rfl, Below.refl _ _⟩
 ·have g : (fn == 4) = false := beq_eq_false_iff_ne.2 h4
  by_cases h5 : fn = 5
  ·have C4 := Lib.hid (fun w => rrem_c a b w h h' h1 h1')
   have HF : Hid (fnF fn a b = remS a b) := show _ = _ by subst h5; simp [fnF]
   rw [HF.out]
   have g5 : (fn == 5) = true := beq_iff_eq.2 h5
   clear h5 h4
   go_enter Tryz.func40, Tryz.ntmps40
   go_wp2_with (go_at_call 67; refine (C4.out _).mono ?_; rintro e w1 ⟨rfl, rfl⟩)
   go_ret
   exact ⟨rfl, Below.refl _ _⟩
  ·have g5 : (fn == 5) = false := beq_eq_false_iff_ne.2 h5
   have CA := Lib.hid (fun w => rapply_c fn a b w h4 h5 h h' h1 h1')
   clear h4 h5
   by_cases hi : 1 ≤ fn ∧ fn ≤ 19
   ·rw [if_pos hi] at CA
    clear hi
    go_enter Tryz.func40, Tryz.ntmps40
    go_wp2_with (go_at_call 68; refine (CA.out _).mono ?_; rintro e w1 ⟨rfl, hb⟩)
    go_ret
    exact ⟨rfl, hb⟩
   ·rw [if_neg hi] at CA
    have HF := Lib.hid (fnF_out fn a b hi)
    clear hi
    go_enter Tryz.func40, Tryz.ntmps40
    go_wp2_with (go_at_call 68; refine (CA.out _).mono ?_; rintro e w1 ⟨rfl, hb⟩)
    go_ret
    exact ⟨by rw [HF.out]; rfl, hb⟩
end Go.Proofs.YtkhfddodmjnecaaGreatDoor
