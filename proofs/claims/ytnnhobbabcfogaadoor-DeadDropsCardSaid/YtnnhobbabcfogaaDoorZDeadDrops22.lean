/-
 A table of rows of integers that grow one by one; which blocks lead to which, gathered so.; Contract of flow's Preds.
-/
import Derived.Test.YtnnhobbabcfogaaDoorZDeadDrops21

set_option linter.all false
namespace Go.Proofs.YtnnhobbabcfogaaDoor
open Go.ChangeShapes Go.WideShapes Go.ChangeAt Go.RowKit
set_option maxHeartbeats 2000000
set_option maxRecDepth 20000

/-- the blocks before n that lead to t, and n if it is among the first k ways on -/
def prR (p : Pr) (n k : Nat) (t : Int) : List Int := predsU p t n ++ (if hasL ((outsP p n).take k) t = true then [(n : Int)] else [])
def prT (p : Pr) (n k : Nat) : List (List Int) := (List.range p.blks.length).map fun t : Nat => prR p n k (t : Int)
theorem outsP_nodup (p : Pr) (n : Nat) : (outsP p n).Nodup := by
 unfold outsP
 refine List.Pairwise.sublist List.filter_sublist (?_ : List.Nodup _)
 unfold outsB
 split
 ·simp
 ·split
  ·rename_i h1 h2
   simp
   intro e
   exact h1 (.inr ⟨h2, e⟩)
  ·simp
theorem prT_len (p : Pr) (n k : Nat) : (prT p n k).length = p.blks.length := by simp [prT]
theorem prT_get (p : Pr) (n k t : Nat) (h : t < p.blks.length) : (prT p n k).getD t [] = prR p n k t := by simp [prT, List.getD, h]
theorem prT_next (p : Pr) (n : Nat) : prT p n (outsP p n).length = prT p (n + 1) 0 := by
 unfold prT prR
 refine List.map_congr_left fun t _ => ?_
 rw [List.take_length, List.take_zero]
 cases e : hasL (outsP p n) t
 ·rw [predsU_no p t n e]; simp [hasL]
 ·rw [predsU_yes p t n e]; simp [hasL]
theorem prT_0 (p : Pr) : prT p 0 0 = List.replicate p.blks.length [] := by
 unfold prT prR
 apply List.ext_getElem (by simp)
 intro i h1 h2
 simp [predsU, hasL]
theorem prT_step (p : Pr) (n k tk : Nat) (hk : k < (outsP p n).length) (ht : (outsP p n).getD k 0 = (tk : Int)) : prT p n (k + 1) = (prT p n k).set tk (prR p n k tk ++ [(n : Int)]) := by
 have hno : hasL ((outsP p n).take k) tk = false := by
  rw [Bool.eq_false_iff]
  intro h
  obtain ⟨i, hi, hi', e⟩ := mem_take_getD ((hasL_iff _ _).1 h)
  rw [← ht] at e
  have := nodup_at (outsP_nodup p n) hi' hk e
  omega
 apply List.ext_getElem (by simp [prT])
 intro i h1 h2
 have hi : i < p.blks.length := by simpa [prT] using h1
 rw [List.getElem_set]
 simp only [prT, List.getElem_map, List.getElem_range]
 have hstep : hasL ((outsP p n).take (k + 1)) i = (hasL ((outsP p n).take k) i || ((i : Int) == (tk : Int))) := by
  rw [take_snoc _ k hk, ht]
  unfold hasL
  rw [Bool.eq_iff_iff, Bool.or_eq_true, List.contains_iff_mem, List.contains_iff_mem, List.mem_append, List.mem_singleton, beq_iff_eq]
 unfold prR
 by_cases e : tk = i
 ·subst e
  rw [if_pos rfl, hstep, hno]
  simp
 ·rw [if_neg e, hstep, show ((i : Int) == (tk : Int)) = false from beq_eq_false_iff_ne.2 (by omega), Bool.or_false]
theorem prR_len (p : Pr) (n k : Nat) (t : Int) : (prR p n k t).length ≤ n + 1 := by
 have := predsU_le p t n
 unfold prR
 rw [List.length_append]
 split <;> simp <;> omega
theorem prT_all (p : Pr) (t : Nat) (h : t < p.blks.length) : (prT p p.blks.length 0).getD t [] = predsP p t := by
 rw [prT_get p _ _ t h]
 unfold prR predsU predsP
 simp [hasL]

theorem info_sl : (Tryd.prog.info? 43).map (fun i => (i.zero, i.size, i.bytes)) = some (some (.slice none 0 0), 1, 24) := by kernel_rfl
/-- a table of rows of the call's own -/
structure PT (W0 w : World) (gP B n : Nat) (vs : List Value) (rows : List (List Int)) : Prop where
 below : Below W0.heap.size W0 w
 tab : w.ownsRow 0 43 1 (.slice (some ⟨gP, 0, none⟩) n n) n vs
 row : ∀ j, j < n → OwnI w B (vs.getD j undef) (rows.getD j [])
 ne : ∀ i j, i < n → j < n → i ≠ j → (vs.getD i undef).ownBlock = none ∨ (vs.getD i undef).ownBlock ≠ (vs.getD j undef).ownBlock
 g0 : W0.heap.size ≤ gP
 gB : gP < B
 Bw : B ≤ w.heap.size
 len : rows.length = n
section
variable {W0 w w' : World} {gP B n : Nat} {vs : List Value} {rows : List (List Int)}
theorem PT.vlen (h : PT W0 w gP B n vs rows) : vs.length = n := by have := h.tab.1; omega
theorem PT.grow (h : PT W0 w gP B n vs rows) (hb : Below w.heap.size w w') : PT W0 w' gP B n vs rows := by
 have hg : w.grownBy w' none := ⟨hb.os, hb.tape, hb.output, hb.size, fun k hk _ => hb.block k hk⟩
 have h1 := h.g0
 have h2 := h.gB
 have h3 := h.Bw
 exact ⟨h.below.trans (hb.mono (by omega)), World.ownsRow.kept h.tab hg (.inr (by simp [Value.ownBlock])), fun j hj => (h.row j hj).below hb, h.ne, h.g0, h.gB, Nat.le_trans h.Bw hb.size, h.len⟩
theorem PT.cell (h : PT W0 w gP B n vs rows) {j : Nat} (hj : j < n) : w.cell? ⟨gP, j, none⟩ = some (vs.getD j undef) := by
 have := h.tab.cellAt j (by omega)
 rw [this]
 simp [List.getD, h.vlen, hj]
theorem getD_setV (l : List Value) (i j : Nat) (x : Value) (h : i < l.length) : (l.set i x).getD j undef = if j = i then x else l.getD j undef := by
 simp only [List.getD, List.getElem?_set]
 by_cases e : i = j
 ·subst e; simp [h]
 ·simp [e, Ne.symm e]
theorem getD_setR (l : List (List Int)) (i j : Nat) (x : List Int) (h : i < l.length) : (l.set i x).getD j [] = if j = i then x else l.getD j [] := by
 simp only [List.getD, List.getElem?_set]
 by_cases e : i = j
 ·subst e; simp [h]
 ·simp [e, Ne.symm e]
theorem PT.push {v' : Value} {j : Nat} {x : Int} (h : PT W0 w gP B n vs rows) (hj : j < n) (hg : w.grownBy w' (vs.getD j undef).ownBlock)
  (ho : w'.ownsRow B 3 1 v' ((rows.getD j []).length + 1) ((rows.getD j []).map (Value.int .i64) ++ [.int .i64 x])) (hat : v'.ownBlock = (vs.getD j undef).ownBlock ∨ v'.ownBlock = some w.heap.size) :
  PT W0 (w'.setCell ⟨gP, j, none⟩ v') gP B n (vs.set j v') (rows.set j (rows.getD j [] ++ [x])) := by
 have h1 := h.g0
 have h2 := h.gB
 have h3 := h.Bw
 have hvl := h.vlen
 have hrl := h.len
 have fr : ∀ i, i < n → ∀ b, (vs.getD i undef).ownBlock = some b → B ≤ b ∧ b < w.heap.size := fun i hi b e => World.ownsRow.lt (h.row i hi) b e
 have htab := World.ownsRow.kept h.tab hg (.inr (fun e => by have := (fr j hj gP e.symm).1; omega))
 obtain ⟨htab2, hg2⟩ := htab.stored j v'
 have hB1 := Nat.le_trans h.Bw hg.size
 refine ⟨?_, htab2, fun i hi => ?_, fun i k hi hk hik => ?_, h.g0, h.gB, by simpa using hB1, by simpa using h.len⟩
 ·exact (grown_belG h.below (Nat.le_trans (by omega) h.Bw) hg (fun b e => by have := (fr j hj b e).1; omega)).setCell h.g0 _
 ·rw [getD_setV _ _ _ _ (by omega), getD_setR _ _ _ _ (by omega)]
  by_cases e : i = j
  ·rw [if_pos e, if_pos e]
   have hown : OwnI w' B v' (rows.getD j [] ++ [x]) := by unfold OwnI; simpa using ho
   exact far_set hown h.gB
  ·rw [if_neg e, if_neg e]
   exact far_set (World.ownsRow.kept (h.row i hi) hg (h.ne i j hi hj e)) h.gB
 ·rw [getD_setV _ _ _ _ (by omega), getD_setV _ _ _ _ (by omega)]
  by_cases e : i = j
  ·rw [if_pos e, if_neg (fun e2 => hik (e.trans e2.symm))]
   rcases hat with e2 | e2
   ·rw [e2]; exact h.ne j k hj hk (fun e3 => hik (e.trans e3))
   ·right
    rw [e2]
    intro e3
    have := (fr k hk _ e3.symm).2
    omega
  ·rw [if_neg e]
   by_cases e4 : k = j
   ·rw [if_pos e4]
    rcases hat with e2 | e2
    ·rw [e2]; exact h.ne i j hi hj e
    ·by_cases e5 : (vs.getD i undef).ownBlock = none
     ·exact .inl e5
     ·right
      rw [e2]
      intro e3
      have := (fr i hi _ e3).2
      omega
   ·rw [if_neg e4]; exact h.ne i k hi hk hik
end
end Go.Proofs.YtnnhobbabcfogaaDoor

set_option linter.all false
namespace Go.Proofs.YtnnhobbabcfogaaDoor
open Go.ChangeShapes Go.WideShapes Go.ChangeAt Go.RowKit
set_option maxHeartbeats 2000000
set_option maxRecDepth 20000

theorem madeS (w : World) (n : Nat) (hn : n ≤ maxLen) : (w.alloc (.cells (madeCells #[.slice none 0 0] n) 43)).ownsRow 0 43 1 (.slice (some ⟨w.heap.size, 0, none⟩) n n) n (List.replicate n (.slice none 0 0)) := by
 have hl : (madeCells #[Value.slice none 0 0] n).toList = List.replicate n (Value.slice none 0 0) := by
  apply List.ext_getElem
  ·simp [madeCells]
  ·intro i h1 h2
   simp [madeCells, Nat.mod_one]
 refine ⟨by simp, .inr ⟨w.heap.size, n, _, rfl, Nat.zero_le _, heap_alloc_new w _, by simp, hn, by simp [madeCells], ?_⟩⟩
 rw [hl]
 simp [List.take_of_length_le]
/-- a list that is read, in a block that none of a table's rows lies in -/
def OutFar (w : World) (gP n : Nat) (vs : List Value) (a : Option Addr) (L : List Int) : Prop :=
 ∀ j, j < L.length → ∃ b o, a = some ⟨b, o, none⟩ ∧ b < w.heap.size ∧ b ≠ gP ∧ (∀ i, i < n → (vs.getD i undef).ownBlock ≠ some b) ∧ w.cell? ⟨b, o + j, none⟩ = some (.int .i64 (L.getD j 0))
theorem OutFar.push {w w' : World} {gP n : Nat} {vs : List Value} {a : Option Addr} {L : List Int} {v' : Value} {j : Nat} (h : OutFar w gP n vs a L) (hl : vs.length = n) (hj : j < n) (hg : w.grownBy w' (vs.getD j undef).ownBlock)
  (hat : v'.ownBlock = (vs.getD j undef).ownBlock ∨ v'.ownBlock = some w.heap.size) : OutFar (w'.setCell ⟨gP, j, none⟩ v') gP n (vs.set j v') a L := fun i hi => by
 obtain ⟨b, o, e, h1, h2, h3, h4⟩ := h i hi
 refine ⟨b, o, e, by have := hg.size; simp; omega, h2, fun k hk => ?_, ?_⟩
 ·rw [getD_setV _ _ _ _ (by omega)]
  by_cases e2 : k = j
  ·rw [if_pos e2]
   rcases hat with e3 | e3
   ·rw [e3]; exact h3 j hj
   ·rw [e3]; intro e4; simp only [Option.some.injEq] at e4; omega
  ·rw [if_neg e2]; exact h3 k hk
 ·rw [World.cell?_setCell_other _ _ _ _ (fun e => h2 (by simp only [Addr.mk.injEq] at e; first | exact e.1 | exact e.1.symm)), grown_cell hg h1 (h3 j hj)]
  exact h4
theorem preds_c (p : Pr) (V : Value) (w : World) (hP : PrV w V p) (hlen : p.blks.length ≤ 1000) :
  Calls Tryd.prog 106 #[V] w fun e w' => ∃ gP B vs, e = .returned (.slice (some ⟨gP, 0, none⟩) p.blks.length p.blks.length) ∧ PT w w' gP B p.blks.length vs (prT p p.blks.length 0) := by
 have EO : Hid (∀ (k : Nat) w', Ext w w' → k < p.blks.length → Calls Tryd.prog 90 #[V, .int .i64 (k : Int)] w' (RetR w' (outsP p k))) := fun k w' he hk => fouts_c p V k w' (hP.ext he) hk (by omega)
 obtain ⟨nm, vo, vb, rfl, -, a, c, rfl, -, -, -⟩ := hP
 have hmk := run_make_row' (P := Tryd.prog) 83 43 (.slice none 0 0) 24 Tryd.underlying83 info_sl rfl .i64 .i64 p.blks.length (by omega) (by omega)
 go_enter Tryd.func106, Tryd.ntmps106
 go_wp2_with fail
 clear hmk
 obtain ⟨W0, hW0⟩ : ∃ W0, W0 = w.alloc (.cells #[.string nm, .bool p.void, .int .i64 p.params, .int .i64 p.regs, vo, .slice a p.blks.length c] 37) := ⟨_, rfl⟩
 have HBX : Hid (∀ w', Below W0.heap.size W0 w' → ∀ j : Nat, j < 6 → w'.cell? ⟨w.heap.size, j, none⟩ = #[Value.string nm, .bool p.void, .int .i64 p.params, .int .i64 p.regs, vo, .slice a p.blks.length c][j]?) := fun w' hb j _ => (hb.cell (p := ⟨w.heap.size, j, none⟩) (by rw [hW0]; simp)).trans (by rw [hW0]; exact cell_of_heap (heap_alloc_new w _) j)
 have hz0 : W0.heap.size = w.heap.size + 1 := by rw [hW0]; simp
 have HE : Hid (∀ w', Below W0.heap.size W0 w' → Ext w w') := fun w' hb => (show Ext w W0 by rw [hW0]; exact Ext.alloc w _).trans (Ext.below hb)
 have HR : Hid (Below w.heap.size w W0) := by rw [hW0]; exact below_alloc w _
 have M0 : Hid (PT W0 (W0.alloc (.cells (madeCells #[.slice none 0 0] p.blks.length) 43)) W0.heap.size (W0.heap.size + 1) p.blks.length (List.replicate p.blks.length (.slice none 0 0)) (prT p 0 0)) := by
  refine ⟨below_alloc _ _, madeS W0 _ (by unfold maxLen; omega), fun j hj => ?_, fun i j hi hj hij => .inl ?_, Nat.le_refl _, Nat.lt_succ_self _, by simp, prT_len _ _ _⟩
  ·rw [prT_0]
   have e1 : (List.replicate p.blks.length (Value.slice none 0 0)).getD j undef = .slice none 0 0 := by simp [List.getD, List.getElem?_replicate, hj]
   have e2 : (List.replicate p.blks.length ([] : List Int)).getD j [] = [] := by simp only [List.getD, List.getElem?_replicate]; split <;> rfl
   rw [e1, e2]
   exact OwnI.nil _ _
  ·have e1 : (List.replicate p.blks.length (Value.slice none 0 0)).getD i undef = .slice none 0 0 := by simp [List.getD, List.getElem?_replicate, hi]
   rw [e1]; rfl
 rw [show w.heap.size + 1 = W0.heap.size from hz0.symm, ← hW0]
 have hz0a : W0.heap.size ≤ w.heap.size + 1 := Nat.le_of_eq hz0
 have hz0b : w.heap.size + 1 ≤ W0.heap.size := Nat.le_of_eq hz0.symm
 clear hW0 hz0
 generalize W0.alloc (.cells (madeCells #[.slice none 0 0] p.blks.length) 43) = W1 at M0 ⊢
 go_loopw [14] (fun i wr => ∃ (k : Nat) (vs : List Value), k ≤ p.blks.length ∧ i = .int .i64 (k : Int) ∧ Hid (PT W0 wr W0.heap.size (W0.heap.size + 1) p.blks.length vs (prT p k 0))) (fun i _ => p.blks.length - (intOf i).toNat)
 case atStart => exact ⟨0, _, Nat.zero_le _, rfl, M0⟩
 case round =>
  clear M0
  obtain ⟨k, vs, hk, rfl, M⟩ := hrel
  by_cases hlk : k < p.blks.length
  ·have hBl := Lib.hid M.out.below
   have x0 := HBX.out wr hBl.out 0 (by decide)
   have x1 := HBX.out wr hBl.out 1 (by decide)
   have x2 := HBX.out wr hBl.out 2 (by decide)
   have x3 := HBX.out wr hBl.out 3 (by decide)
   have x4 := HBX.out wr hBl.out 4 (by decide)
   have x5 := HBX.out wr hBl.out 5 (by decide)
   simp at x0 x1 x2 x3 x4 x5
   go_wp2_with fail
   refine (EO.out k wr (HE.out wr hBl.out) hlk).mono ?_
   rintro e w2 ⟨v2, rfl, ⟨⟨a2, c2, rfl, h1, h2, h3⟩, hf⟩, hb2⟩
   have M2 := Lib.hid (M.out.grow hb2)
   have HF2 : Hid (OutFar w2 W0.heap.size p.blks.length vs a2 (outsP p k)) := fun j hj => by
    obtain ⟨b, o, rfl, hc⟩ := h3 j hj
    have hbb : wr.heap.size ≤ b := hf _ _ _ rfl
    have hBw := M.out.Bw
    refine ⟨b, o, rfl, World.block_lt_of_cell? w2 _ hc, by omega, fun i hi e => ?_, by simpa using hc⟩
    have := (World.ownsRow.lt (M.out.row i hi) b e).2
    omega
   have hol := outsP_two p k
   have HNX := Lib.hid (prT_next p k)
   have HST := Lib.hid (fun j tk => prT_step p k j tk)
   have HTI : Hid (∀ j, j < (outsP p k).length → 0 ≤ (outsP p k).getD j 0 ∧ (outsP p k).getD j 0 < p.blks.length) := fun j hj => outsP_in p k j hj
   unfold maxLen at h2
   clear hf h3 hb2 M hBl x0 x1 x2 x3 x4 x5
   generalize outsP p k = L at *
   go_wp2_with fail
   go_loopw [21] (fun i wr => ∃ (j : Nat) (vs : List Value), j ≤ L.length ∧ i = .int .i64 (j : Int) ∧ Hid (PT W0 wr W0.heap.size (W0.heap.size + 1) p.blks.length vs (prT p k j)) ∧ Hid (OutFar wr W0.heap.size p.blks.length vs a2 L)) (fun i _ => L.length - (intOf i).toNat)
   case atStart => exact ⟨0, vs, Nat.zero_le _, rfl, M2, HF2⟩
   case round =>
    clear M2 HF2
    obtain ⟨j, vs, hj, rfl, M, F⟩ := hrel
    by_cases hlj : j < L.length
    ·obtain ⟨b, o, rfl, hb1, hb2, hb3, hc⟩ := F.out j hlj
     obtain ⟨t0, t1⟩ := HTI.out j hlj
     have HS := HST.out j
     generalize L.getD j 0 = t at hc t0 t1 HS
     obtain ⟨tk, rfl⟩ := Int.eq_ofNat_of_zero_le t0
     have htk : tk < p.blks.length := by omega
     have HS := Lib.hid (HS tk hlj rfl)
     have hcell := M.out.cell htk
     have hrow := M.out.row tk htk
     have hpush := M.out.grow (below_alloc wr (.cells #[.int .i64 (k : Int)] 3))
     have HP := Lib.hid hpush
     have HOF : Hid (OutFar (wr.alloc (.cells #[.int .i64 (k : Int)] 3)) W0.heap.size p.blks.length vs (some ⟨b, o, none⟩) L) := fun i hi => by
      obtain ⟨b', o', e, q1, q2, q3, q4⟩ := F.out i hi
      exact ⟨b', o', e, by simp; omega, q2, q3, Ext.alloc _ _ _ _ q4⟩
     rw [prT_get p k j tk htk] at hrow
     obtain ⟨av, cv, hv⟩ := row_form hrow
     have hv' := Lib.hid hv
     rw [hv] at hcell
     have hlen2 := prR_len p k j tk
     have HRow : Hid ((wr.alloc (.cells #[.int .i64 (k : Int)] 3)).ownsRow (W0.heap.size + 1) 3 1 (.slice av (prR p k j tk).length cv) (prR p k j tk).length ((prR p k j tk).map (Value.int .i64))) := by
      have := World.ownsRow.alloc hrow (.cells #[.int .i64 (k : Int)] 3)
      rw [hv] at this
      exact this
     have HCX : Hid ((wr.alloc (.cells #[.int .i64 (k : Int)] 3)).cell? ⟨wr.heap.size, 0, none⟩ = some (.int .i64 (k : Int))) := cell_of_heap (heap_alloc_new wr _) 0
     have hgp : W0.heap.size < wr.heap.size := by have := M.out.Bw; omega
     have HBW : Hid (W0.heap.size + 1 ≤ (wr.alloc (.cells #[.int .i64 (k : Int)] 3)).heap.size) := by show _ ≤ _; simp; omega
     have HLN : Hid ((prR p k j tk).length ≤ 1000000000) := by show _ ≤ _; omega
     clear hrow hpush hv hlen2 hb3
     have HPR := Lib.hid (prT_get p k j tk htk)
     generalize prR p k j tk = lr at HRow HLN HS HPR hcell hv'
     go_wp2_with (at_builtin; refine appI (n := (k : Int)) HRow.out rfl rfl rfl rfl HCX.out HLN.out HBW.out ?_; intro v3 w3 h3 hg3 ha3; rw [← hv'.out] at hg3 ha3; have M3 := Lib.hid (HP.out.push htk hg3 (by rw [HPR.out]; exact h3) ha3); have F3 := Lib.hid (HOF.out.push HP.out.vlen htk hg3 ha3); have qn : (vs.getD tk undef).ownBlock ≠ some W0.heap.size := (fun e => Nat.lt_irrefl _ (World.ownsRow.lt (HP.out.row tk htk) _ e).1); have hgp3 : W0.heap.size < w3.heap.size := Nat.lt_of_lt_of_le HBW.out hg3.size; have qz : w3.frozen? ⟨W0.heap.size, tk, none⟩ = false := (grown_frozen hg3 HBW.out qn).trans (HP.out.tab.frozenAt tk); have qc : w3.cell? ⟨W0.heap.size, tk, none⟩ = some (.slice av lr.length cv) := (grown_cell hg3 HBW.out qn).trans ((HP.out.cell htk).trans (by rw [hv'.out])); obtain ⟨a3, c3, rfl⟩ := row_form h3; clear h3 hg3 ha3 qn)
     go_roundw
     case rel => exact ⟨j + 1, _, by omega, by go_num, by rw [HS.out]; have h := M3.out; rw [HPR.out] at h; exact h, F3.out⟩
     case measure => simp [intOf]; omega
    ·obtain rfl : j = L.length := by omega
     go_wp2_with fail
     go_roundw
     case rel => exact ⟨k + 1, vs, by omega, by go_num, by rw [← HNX.out]; exact M.out⟩
     case measure => simp [intOf]; omega
  ·obtain rfl : k = p.blks.length := by omega
   go_wp2_with fail
   go_ret
   have h := M.out
   exact ⟨_, _, vs, rfl, ⟨HR.out.trans (h.below.mono HR.out.size), h.tab, h.row, h.ne, Nat.le_trans HR.out.size h.g0, h.gB, h.Bw, h.len⟩⟩
end Go.Proofs.YtnnhobbabcfogaaDoor
