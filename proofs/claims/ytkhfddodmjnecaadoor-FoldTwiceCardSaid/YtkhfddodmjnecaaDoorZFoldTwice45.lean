/-
 What is known stands as numbers (fold.Known).
-/
import Derived.Test.YtkhfddodmjnecaaDoorZFoldTwice41
import Derived.Test.YtkhfddodmjnecaaDoorZFoldTwice10
set_option linter.all false
namespace Go.Proofs.YtkhfddodmjnecaaDoor
open Go.ChangeShapes Go.WideShapes Go.ChangeAt Go.RowKit
set_option maxHeartbeats 16000000
set_option maxRecDepth 100000
set_option linter.unusedVariables false

theorem copyBk0 {v : Value} {l : List Bk} (w0 w : World) (h : RdBks w0 v l) (he : Ext w0 w) (hn : l.length ≤ 1000000) :
  Calls Tryd.prog 12 #[v] w fun e w' => ∃ (v' : Value) (L : List (Bk × Value)), e = .returned v' ∧ L.map Prod.fst = l ∧ (∀ x ∈ L, RdIns w0 x.2 x.1.ins) ∧ w'.ownsRow w.heap.size 43 5 v' L.length (L.flatMap bkCells) ∧ Below w.heap.size w w' := by
 obtain ⟨L, rfl, hi, hs⟩ := h.src
 rw [List.length_map] at hs hn
 refine (cloneBk v L.length _ w (hs.keep he) (flat_len bkCells 5 (fun _ => rfl) L) hn (bk_one L fun x hx => (hi x hx).sl)).mono ?_
 rintro e w' ⟨v', rfl, ho, hb⟩
 exact ⟨v', L, rfl, rfl, hi, ho, hb⟩
theorem copyIn0 {v : Value} {l : List In} (w0 w : World) (h : RdIns w0 v l) (he : Ext w0 w) (hn : l.length ≤ 1000000) :
  Calls Tryd.prog 15 #[v] w fun e w' => ∃ (v' : Value) (L : List (In × Value)), e = .returned v' ∧ L.map Prod.fst = l ∧ (∀ x ∈ L, RdI w0 x.2 x.1.args) ∧ w'.ownsRow w.heap.size 40 11 v' L.length (L.flatMap inCells) ∧ Below w.heap.size w w' := by
 obtain ⟨L, rfl, hi, hs⟩ := h.src
 rw [List.length_map] at hs hn
 refine (cloneIn v L.length _ w (hs.keep he) (flat_len inCells 11 (fun _ => rfl) L) hn (in_one L fun x hx => (hi x hx).sl)).mono ?_
 rintro e w' ⟨v', rfl, ho, hb⟩
 exact ⟨v', L, rfl, rfl, hi, ho, hb⟩
/-- five cells: a block laid over another -/
theorem KbM.put5 {w0 w : World} {B gB cB k g : Nat} {L : List (Bk × Value)} (h : KbM w0 B w gB cB L k g) (hk : k < L.length) (x : Bk × Value) : KbM w0 B (((((w.setCell ⟨gB, k * 5, none⟩ x.2).setCell ⟨gB, k * 5 + 1, none⟩ (.int .i64 x.1.fin)).setCell ⟨gB, k * 5 + 2, none⟩ (.int .i64 x.1.a)).setCell ⟨gB, k * 5 + 3, none⟩ (.int .i64 x.1.to)).setCell ⟨gB, k * 5 + 4, none⟩ (.int .i64 x.1.els)) gB cB (L.set k x) k g := by
 obtain ⟨⟨xi, xf, xa, xt, xe⟩, xv⟩ := x
 obtain ⟨⟨yi, yf, ya, yt, ye⟩, yv⟩ : Bk × Value := L.getD k default
 generalize hy : L.getD k default = y
 obtain ⟨⟨yi, yf, ya, yt, ye⟩, yv⟩ := y
 have gd : ∀ (M : List (Bk × Value)) (z : Bk × Value), k < M.length → (M.set k z).getD k default = z := fun M z hM => by simp [List.getD, hM]
 have l1 := h.put hk (j := 0) (by decide) (u := xv) (x := (⟨yi, yf, ya, yt, ye⟩, xv)) (by rw [hy]; rfl)
 have l2 := l1.put (by simpa using hk) (j := 1) (by decide) (u := .int .i64 xf) (x := (⟨yi, xf, ya, yt, ye⟩, xv)) (by rw [gd _ _ hk]; rfl)
 rw [List.set_set] at l2
 have l3 := l2.put (by simpa using hk) (j := 2) (by decide) (u := .int .i64 xa) (x := (⟨yi, xf, xa, yt, ye⟩, xv)) (by rw [gd _ _ hk]; rfl)
 rw [List.set_set] at l3
 have l4 := l3.put (by simpa using hk) (j := 3) (by decide) (u := .int .i64 xt) (x := (⟨yi, xf, xa, xt, ye⟩, xv)) (by rw [gd _ _ hk]; rfl)
 rw [List.set_set] at l4
 have l5 := l4.put (by simpa using hk) (j := 4) (by decide) (u := .int .i64 xe) (x := (⟨xi, xf, xa, xt, xe⟩, xv)) (by rw [gd _ _ hk]; rfl)
 rw [List.set_set] at l5
 exact l5
/-- .. that has the same cells -/
theorem KbM.same {w0 w : World} {B gB cB k g : Nat} {L : List (Bk × Value)} (h : KbM w0 B w gB cB L k g) (hk : k < L.length) {x : Bk × Value} (hx : bkCells x = bkCells (L.getD k default)) : KbM w0 B w gB cB (L.set k x) k g := by
 have e : (L.set k x).flatMap bkCells = L.flatMap bkCells := by
  rw [List.flatMap_def, List.flatMap_def, List.map_set]
  congr 1
  have h2 : bkCells x = (L.map bkCells)[k]'(by simpa using hk) := by rw [hx]; simp [List.getD, hk]
  rw [h2]
  exact List.set_getElem_self _
 refine ⟨by rw [List.length_set, e]; exact h.own, fun j hj hne => ?_⟩
 rw [List.length_set] at hj
 rw [show (L.set k x).getD j default = L.getD j default by simp [List.getD, List.getElem?_set, Ne.symm hne]]
 exact h.ins j hj hne
def zPr : Array Value := #[.string ⟨#[]⟩, .bool false, .int .i64 0, .int .i64 0, .slice none 0 0, .slice none 0 0]
/-- the blocks of which the first k are done -/
def dnK (p : Pr) (R : Nat) (X : Tb) (k : Nat) : List Bk := (List.range p.blks.length).map fun j => if j < k then knwB (atB R X j) (p.blks.getD j default) else p.blks.getD j default
theorem dnK_len (p : Pr) (R : Nat) (X : Tb) (k : Nat) : (dnK p R X k).length = p.blks.length := by simp [dnK]
theorem dnK_at {p : Pr} {R : Nat} {X : Tb} {k j : Nat} (h : j < p.blks.length) : (dnK p R X k).getD j default = if j < k then knwB (atB R X j) (p.blks.getD j default) else p.blks.getD j default := by simp [dnK, List.getD, h]
theorem bk_ext {a b : List Bk} (hl : a.length = b.length) (h : ∀ i, i < a.length → a.getD i default = b.getD i default) : a = b := by
 refine List.ext_getElem hl fun i h1 h2 => ?_
 have := h i h1
 simpa [List.getD, h1, h2] using this
theorem dnK_zero (p : Pr) (R : Nat) (X : Tb) : dnK p R X 0 = p.blks := bk_ext (dnK_len _ _ _ _) fun i hi => by
 rw [dnK_len] at hi
 rw [dnK_at hi, if_neg (Nat.not_lt_zero _)]
theorem dnK_on {p : Pr} {R : Nat} {X : Tb} {k : Nat} (h : k < p.blks.length) : dnK p R X (k + 1) = (dnK p R X k).set k (knwB (atB R X k) (p.blks.getD k default)) := bk_ext (by rw [List.length_set, dnK_len, dnK_len]) fun i hi => by
 rw [dnK_len] at hi
 rw [dnK_at hi]
 by_cases e : i = k
 ·subst e
  rw [if_pos (by omega)]
  simp [List.getD, dnK_len, hi]
 ·rw [show ((dnK p R X k).set k (knwB (atB R X k) (p.blks.getD k default))).getD i default = (dnK p R X k).getD i default by simp [List.getD, List.getElem?_set, Ne.symm e], dnK_at hi]
  by_cases e2 : i < k
  ·rw [if_pos e2, if_pos (by omega)]
  ·rw [if_neg e2, if_neg (by omega)]
theorem dnK_all (p : Pr) (R : Nat) (X : Tb) : dnK p R X p.blks.length = (knwP p (atB R X)).blks := by
 unfold dnK knwP
 refine List.map_congr_left fun i hi => ?_
 rw [if_pos (List.mem_range.1 hi)]
/-- between the blocks -/
structure KnS (p : Pr) (R : Nat) (X : Tb) (w : World) (B : Nat) (nm : ByteArray) (vo : Value) (gB cB gt ct : Nat) (rs : Rs) (wr : World) (L : List (Bk × Value)) (X' : Tb) (k : Nat) : Prop where
 len : L.length = p.blks.length
 is : L.map Prod.fst = dnK p R X k
 on : ∀ j, k ≤ j → j < L.length → RdIns w (L.getD j default).2 (p.blks.getD j default).ins
 kb : KbM w B wr gB cB L L.length w.heap.size
 tb : TbC B wr gt ct rs X' R
 xl : X'.length = p.blks.length
 xr : ∀ j, k ≤ j → j < p.blks.length → X'.getD j none = some (atB R X j)
 b0 : wr.heap[w.heap.size]? = some (.cells #[.string nm, .bool p.void, .int .i64 p.params, .int .i64 R, vo, .slice (some ⟨gB, 0, none⟩) p.blks.length cB] 31)
 b1 : wr.heap[w.heap.size + 1]? = some (.cells zPr 31)
 bl : Below w.heap.size w wr
 lB : w.heap.size + 2 ≤ B
/-- within a block -/
structure KnI (R : Nat) (w : World) (B : Nat) (gB cB gt ct : Nat) (rs : Rs) (L1 : List (Bk × Value)) (X' : Tb) (k gI : Nat) (aI : Option Addr) (cI m : Nat) (t : Ro) (ins : List In) (HB : Obj) (wq : World) (LJ : List (In × Value)) (q qt : Nat) : Prop where
 len : LJ.length = m
 is : LJ.map Prod.fst = (knwL t ins).take q ++ ins.drop q
 args : ∀ y ∈ LJ, RdI w y.2 y.1.args
 own : wq.ownsRow B 40 11 (.slice aI m cI) m (LJ.flatMap inCells)
 kb : KbM w B wq gB cB L1 k gI
 tb : TbC B wq gt ct rs (X'.set k (some (thrC t (ins.take qt)))) R
 b0 : wq.heap[w.heap.size]? = some HB
 b1 : wq.heap[w.heap.size + 1]? = some (.cells zPr 31)
 bl : Below w.heap.size w wq
section
variable {R : Nat} {w : World} {B gB cB gt ct : Nat} {rs : Rs} {L1 : List (Bk × Value)} {X' : Tb} {k gI : Nat} {aI : Option Addr} {cI m : Nat} {t : Ro} {ins : List In} {HB : Obj} {wq w' : World} {LJ : List (In × Value)} {q qt : Nat}
theorem KnI.below (h : KnI R w B gB cB gt ct rs L1 X' k gI aI cI m t ins HB wq LJ q qt) (hb : Below wq.heap.size wq w') : KnI R w B gB cB gt ct rs L1 X' k gI aI cI m t ins HB w' LJ q qt :=
 ⟨h.len, h.is, h.args, own_below h.own hb, h.kb.below hb, h.tb.below hb, (hb.block _ (Array.getElem?_eq_some_iff.1 h.b0).1).trans h.b0, (hb.block _ (Array.getElem?_eq_some_iff.1 h.b1).1).trans h.b1, h.bl.trans (hb.mono h.bl.size)⟩
/-- a row of numbers turned -/
theorem KnI.turn {x : Nat × Nat} (h : KnI R w B gB cB gt ct rs L1 X' k gI aI cI m t ins HB wq LJ q q) (hk : k < X'.length) (hx : rs.getD k none = some x) (hb : But x.1 wq w') (hq : RowQ w' x.1 x.2 (thrC t (ins.take (q + 1)))) (hl : (thrC t (ins.take (q + 1))).length = R) (ho : RoOk (thrC t (ins.take (q + 1)))) (hB : w.heap.size + 2 ≤ B) : KnI R w B gB cB gt ct rs L1 X' k gI aI cI m t ins HB w' LJ q (q + 1) := by
 have hrow := h.tb.row k (by simpa using hk)
 rw [hx, show (X'.set k (some (thrC t (ins.take q)))).getD k none = some (thrC t (ins.take q)) by simp [List.getD, hk]] at hrow
 obtain ⟨hr1, hr2, hr3, hr4⟩ := hrow
 have hcell : ∃ cs, wq.heap[x.1]? = some (.cells cs 54) := by
  have h' := hr1
  unfold RowQ at h'
  obtain ⟨-, ⟨h2, -⟩ | ⟨g', cap, cur, h2, -, hg, -⟩⟩ := h'
  ·simp at h2
  ·simp only [Value.slice.injEq, Option.some.injEq, Addr.mk.injEq, and_true, true_and] at h2
   obtain ⟨rfl, -⟩ := h2
   exact ⟨cur, hg⟩
 obtain ⟨cs, hcs⟩ := hcell
 have ht := h.tb.turn (by simpa using hk) hx hq hl ho hb
 rw [List.set_set] at ht
 refine ⟨h.len, h.is, h.args, World.ownsRow.kept h.own (but_grownK hb) (.inr (row_not h.own hcs (by decide))), h.kb.keep hb hcs (by decide) (.inl (by decide)), ht, ?_, ?_, ?_⟩
 ·exact (hb.block _ (Array.getElem?_eq_some_iff.1 h.b0).1 (by omega)).trans h.b0
 ·exact (hb.block _ (Array.getElem?_eq_some_iff.1 h.b1).1 (by omega)).trans h.b1
 ·exact h.bl.trans (hb.toBelow (by omega) h.bl.size)
theorem mid_on {a b : List In} {q : Nat} (hl : a.length = b.length) (hq : q < b.length) : a.take (q + 1) ++ b.drop (q + 1) = (a.take q ++ b.drop q).set q (a.getD q default) := by
 have h1 : (a.take q).length = q := by rw [List.length_take]; omega
 have h2 : b.drop q = b[q] :: b.drop (q + 1) := List.drop_eq_getElem_cons hq
 have h3 : a.take (q + 1) = a.take q ++ [a.getD q default] := by
  rw [List.take_succ, List.getElem?_eq_getElem (show q < a.length by omega)]
  simp [List.getD, show q < a.length by omega]
 rw [h3, h2, List.set_append_right _ _ (by omega), h1, Nat.sub_self, List.set_cons_zero, List.append_assoc]
 rfl
/-- an instruction stays -/
theorem KnI.same (h : KnI R w B gB cB gt ct rs L1 X' k gI aI cI m t ins HB wq LJ q qt) (hq : q < ins.length) (he : (knwL t ins).getD q default = ins.getD q default) : KnI R w B gB cB gt ct rs L1 X' k gI aI cI m t ins HB wq LJ (q + 1) qt := by
 refine ⟨h.len, ?_, h.args, h.own, h.kb, h.tb, h.b0, h.b1, h.bl⟩
 rw [mid_on (knwL_len _ _) hq, he, h.is]
 refine List.ext_getElem (by simp) fun i h1 h2 => ?_
 rw [List.getElem_set]
 split
 ·rename_i e
  subst e
  have hl : ((knwL t ins).take q).length = q := by rw [List.length_take, knwL_len]; omega
  rw [List.getElem_append_right (by omega)]
  simp [hl, List.getD, hq]
 ·rfl
/-- a number stands in its place -/
theorem KnI.lay {g : Nat} {d n : Int} (h : KnI R w B gB cB gt ct rs L1 X' k g (some ⟨g, 0, none⟩) cI m t ins HB wq LJ q qt) (hq : q < ins.length) (hm : m = ins.length) (he : (knwL t ins).getD q default = constI d n) (hB : w.heap.size + 2 ≤ B) :
  KnI R w B gB cB gt ct rs L1 X' k g (some ⟨g, 0, none⟩) cI m t ins HB (((((((((((wq.setCell ⟨g, q * 11, none⟩ (.int .i64 1)).setCell ⟨g, q * 11 + 1, none⟩ (.int .i64 d)).setCell ⟨g, q * 11 + 2, none⟩ (.int .i64 (-1))).setCell ⟨g, q * 11 + 3, none⟩ (.int .i64 (-1))).setCell ⟨g, q * 11 + 4, none⟩ (.int .i64 0)).setCell ⟨g, q * 11 + 5, none⟩ (.int .i64 0)).setCell ⟨g, q * 11 + 6, none⟩ (.int .i64 0)).setCell ⟨g, q * 11 + 7, none⟩ (.int .i64 0)).setCell ⟨g, q * 11 + 8, none⟩ (.int .u32 n)).setCell ⟨g, q * 11 + 9, none⟩ (.slice none 0 0)).setCell ⟨g, q * 11 + 10, none⟩ (.bool false)) (LJ.set q (constI d n, .slice none 0 0)) (q + 1) qt := by
 have hqJ : q < LJ.length := by rw [h.len, hm]; exact hq
 have hown : OwnC wq B (.slice (some ⟨g, 0, none⟩) m cI) LJ := by unfold OwnC; rw [h.len]; exact h.own
 have h1 := hown.lay hqJ (constI d n, .slice none 0 0) h.len.symm
 obtain ⟨hgB, cs, hcs⟩ := own_heap h.own (by omega)
 have hb : But g wq (((((((((((wq.setCell ⟨g, q * 11, none⟩ (.int .i64 1)).setCell ⟨g, q * 11 + 1, none⟩ (.int .i64 d)).setCell ⟨g, q * 11 + 2, none⟩ (.int .i64 (-1))).setCell ⟨g, q * 11 + 3, none⟩ (.int .i64 (-1))).setCell ⟨g, q * 11 + 4, none⟩ (.int .i64 0)).setCell ⟨g, q * 11 + 5, none⟩ (.int .i64 0)).setCell ⟨g, q * 11 + 6, none⟩ (.int .i64 0)).setCell ⟨g, q * 11 + 7, none⟩ (.int .i64 0)).setCell ⟨g, q * 11 + 8, none⟩ (.int .u32 n)).setCell ⟨g, q * 11 + 9, none⟩ (.slice none 0 0)).setCell ⟨g, q * 11 + 10, none⟩ (.bool false)) :=
  ((((((((((But.setCell g _ wq _).trans (But.setCell g _ _ _)).trans (But.setCell g _ _ _)).trans (But.setCell g _ _ _)).trans (But.setCell g _ _ _)).trans (But.setCell g _ _ _)).trans (But.setCell g _ _ _)).trans (But.setCell g _ _ _)).trans (But.setCell g _ _ _)).trans (But.setCell g _ _ _)).trans (But.setCell g _ _ _)
 refine ⟨by rw [List.length_set]; exact h.len, ?_, fun y hy => ?_, ?_, h.kb.keep hb hcs (by decide) (.inr fun j hj hne => h.kb.away hj hne), h.tb.keep hb hcs (by decide) (by decide), ?_, ?_, ?_⟩
 ·rw [List.map_set, h.is, mid_on (knwL_len _ _) hq, he]
 ·rcases List.mem_or_eq_of_mem_set hy with hy | rfl
  ·exact h.args y hy
  ·exact ⟨none, 0, rfl, Nat.le_refl _, by decide, fun i hi => absurd hi (Nat.not_lt_zero i)⟩
 ·unfold OwnC at h1
  rw [List.length_set, h.len] at h1
  exact h1
 ·exact (hb.block _ (Array.getElem?_eq_some_iff.1 h.b0).1 (by omega)).trans h.b0
 ·exact (hb.block _ (Array.getElem?_eq_some_iff.1 h.b1).1 (by omega)).trans h.b1
 ·exact h.bl.trans (hb.toBelow (by omega) h.bl.size)
end
/-- a block is done -/
theorem KnS.next {p : Pr} {R : Nat} {X : Tb} {w : World} {B : Nat} {nm : ByteArray} {vo : Value} {gB cB gt ct : Nat} {rs : Rs} {wA wz : World} {L : List (Bk × Value)} {X' : Tb} {k gI m : Nat} {vI : Value} {z : Option Ro} {LJ : List (In × Value)} (S : KnS p R X w B nm vo gB cB gt ct rs wA L X' k) (hk : k < p.blks.length)
  (hkb : KbM w B wz gB cB (L.set k (knwB (atB R X k) (p.blks.getD k default), vI)) k gI) (hown : wz.ownsRow B 40 11 vI m (LJ.flatMap inCells)) (hlen : LJ.length = m) (his : LJ.map Prod.fst = knwL (atB R X k) (p.blks.getD k default).ins) (hargs : ∀ y ∈ LJ, RdI w y.2 y.1.args)
  (htb : TbC B wz gt ct rs (X'.set k z) R) (hb0 : wz.heap[w.heap.size]? = some (.cells #[.string nm, .bool p.void, .int .i64 p.params, .int .i64 R, vo, .slice (some ⟨gB, 0, none⟩) p.blks.length cB] 31)) (hb1 : wz.heap[w.heap.size + 1]? = some (.cells zPr 31)) (hbl : Below w.heap.size w wz) :
  KnS p R X w B nm vo gB cB gt ct rs wz (L.set k (knwB (atB R X k) (p.blks.getD k default), vI)) (X'.set k z) (k + 1) := by
 have hkL : k < L.length := by rw [S.len]; exact hk
 refine ⟨by rw [List.length_set]; exact S.len, by rw [List.map_set, S.is, dnK_on hk], fun j hj hjl => ?_, ⟨hkb.own, fun j hj _ => ?_⟩, htb, by rw [List.length_set]; exact S.xl, fun j hj hjl => ?_, hb0, hb1, hbl, S.lB⟩
 ·rw [List.length_set] at hjl
  rw [show (L.set k (knwB (atB R X k) (p.blks.getD k default), vI)).getD j default = L.getD j default by simp [List.getD, List.getElem?_set, show k ≠ j by omega]]
  exact S.on j (by omega) hjl
 ·by_cases e : j = k
  ·subst e
   rw [show (L.set j (knwB (atB R X j) (p.blks.getD j default), vI)).getD j default = (knwB (atB R X j) (p.blks.getD j default), vI) by simp [List.getD, hkL]]
   refine .inr ⟨LJ, by rw [his, knwB_ins], hargs, ?_, row_not hown hb0 (by decide)⟩
   rw [hlen]
   exact ow_base hown (Nat.zero_le _)
  ·exact (hkb.ins j hj e).other (.inr ⟨_, _, hb0, by decide⟩)
 ·rw [show (X'.set k z).getD j none = X'.getD j none by simp [List.getD, List.getElem?_set, show k ≠ j by omega]]
  exact S.xr j (by omega) hjl
def KnwQ (p : Pr) (R : Nat) (nm : ByteArray) (vo : Value) (w : World) (e : Ending) (w' : World) : Prop := ∃ (X : Tb) (vb : Value), e = .returned (.agg #[.string nm, .bool p.void, .int .i64 p.params, .int .i64 R, vo, vb]) ∧ X.length = p.blks.length ∧ RunC p (wkD p).ord.reverse (X0C p.blks.length R) X ∧ (∀ n : Nat, (n : Int) ∈ (wkD p).ord.reverse → StillC p X n) ∧ RdBks w' vb (knwP p (atB R X)).blks ∧ Below w.heap.size w w'
theorem known_c (p : Pr) (nm : ByteArray) (vo vb : Value) (w : World) (R : Nat) (hP : PrV w (.agg #[.string nm, .bool p.void, .int .i64 p.params, .int .i64 p.regs, vo, vb]) p) (hR : p.regs = (R : Int)) (hRb : R ≤ 1000) (h0 : 0 < p.blks.length) (hn : p.blks.length ≤ 1000) (hod : 0 < (wkD p).ord.length)
  (hi : ∀ n, n < p.blks.length → InsC R (p.blks.getD n default).ins ∧ (p.blks.getD n default).ins.length ≤ 100000) (ho : ∀ n, n < p.blks.length → ∀ q ∈ outsB (p.blks.getD n default), 0 ≤ q ∧ q < (p.blks.length : Int)) :
  Calls Tryd.prog 8 #[.agg #[.string nm, .bool p.void, .int .i64 p.params, .int .i64 p.regs, vo, vb]] w (KnwQ p R nm vo w) := by
 have HRO : Hid (∀ W, Ext w W → Calls Tryd.prog 14 #[.agg #[.string nm, .bool p.void, .int .i64 p.params, .int .i64 p.regs, vo, vb]] W (RowsQ p R W)) := fun W hW => rows_c p _ W R (hP.ext hW) hR hRb h0 hn hod hi ho
 obtain ⟨nm', vo', vb', e, hvo, hvb⟩ := hP
 simp only [Value.agg.injEq, Array.mk.injEq, List.cons.injEq, Value.string.injEq, and_true, true_and] at e
 obtain ⟨rfl, rfl, rfl⟩ := e
 obtain ⟨ao, co, rfl, -⟩ := hvo
 have HVB := Lib.hid hvb
 obtain ⟨ab, cb, rfl, -, b2, -⟩ := hvb
 unfold maxLen at b2
 rw [hR] at HRO ⊢
 have HI := Lib.hid hi
 clear hi ho hod hR
 obtain ⟨W2, hW2⟩ : ∃ W2, W2 = (w.alloc (.cells #[.string nm, .bool p.void, .int .i64 p.params, .int .i64 R, .slice ao p.objs.length co, .slice ab p.blks.length cb] 31)).alloc (.cells zPr 31) := ⟨_, rfl⟩
 have H0 : Hid (W2.heap[w.heap.size]? = some (.cells #[.string nm, .bool p.void, .int .i64 p.params, .int .i64 R, .slice ao p.objs.length co, .slice ab p.blks.length cb] 31)) := by
  show _ = _
  rw [hW2, (below_alloc _ _).block _ (by simp)]
  exact heap_alloc_new w _
 have H1 : Hid (W2.heap[w.heap.size + 1]? = some (.cells zPr 31)) := by
  show _ = _
  rw [hW2]
  have := heap_alloc_new (w.alloc (.cells #[.string nm, .bool p.void, .int .i64 p.params, .int .i64 R, .slice ao p.objs.length co, .slice ab p.blks.length cb] 31)) (.cells zPr 31)
  simpa using this
 have B2 : Hid (Below w.heap.size w W2) := by
  show Below _ _ _
  rw [hW2]; exact (below_alloc w _).alloc (by simp) _
 have s2 : w.heap.size + 2 ≤ W2.heap.size := by rw [hW2]; simp
 have HW2 := Lib.hid hW2.symm
 clear hW2
 obtain ⟨p0, p1, p2, p3, p4, p5, lp⟩ := cl6 H0.out
 unfold zPr at HW2
 go_enter Tryd.func8, Tryd.ntmps8
 go_wp2_with fail
 rw [HW2.out]
 clear HW2
 refine (HRO.out W2 (Ext.below B2.out)).mono ?_
 clear HRO
 unfold RowsQ
 rintro e w3 ⟨gt, ct, rs, X, rfl, hX, hru, hst, hT, hb3⟩
 have HRU := Lib.hid hru
 have HST := Lib.hid hst
 have HXL := Lib.hid hX
 have B3 := Lib.hid (B2.out.trans (hb3.mono B2.out.size))
 have H0 := Lib.hid ((hb3.block _ (by omega)).trans H0.out)
 have H1 := Lib.hid ((hb3.block _ (by omega)).trans H1.out)
 have s3 : w.heap.size + 2 ≤ w3.heap.size := by have := hb3.size; omega
 have HT := Lib.hid hT
 clear hru hst hX hT p0 p1 p2 p3 p4 p5 lp B2
 obtain ⟨p0, p1, p2, p3, p4, p5, lp⟩ := cl6 H0.out
 go_wp2_with fail
 refine (copyBk0 w w3 HVB.out (Ext.below B3.out) (by omega)).mono ?_
 rintro e w4 ⟨v', L, rfl, hL, hLi, hLo, hb4⟩
 have hLl : L.length = p.blks.length := by rw [← hL, List.length_map]
 obtain ⟨gB, cB, rfl⟩ := own_slice hLo (by omega)
 have hLo' : w4.ownsRow w3.heap.size 43 5 (.slice (some ⟨gB, 0, none⟩) L.length cB) L.length (L.flatMap bkCells) := hLo
 rw [hLl]
 have s4 : w.heap.size + 2 ≤ w4.heap.size := by have := hb4.size; omega
 have HH0 := (hb4.block _ (by omega)).trans H0.out
 have HH1 := (hb4.block _ (by omega)).trans H1.out
 have BB4 := Lib.hid (B3.out.trans (hb4.mono B3.out.size))
 have hz5 : (w4.setCell ⟨w.heap.size, 5, none⟩ (.slice (some ⟨gB, 0, none⟩) p.blks.length cB)).heap.size = w4.heap.size := by simp
 have hbut : But w.heap.size w4 (w4.setCell ⟨w.heap.size, 5, none⟩ (.slice (some ⟨gB, 0, none⟩) p.blks.length cB)) := But.setCell w.heap.size 5 w4 _
 have S0 : Hid (KnS p R X w (w.heap.size + 2) nm (.slice ao p.objs.length co) gB cB gt ct rs (w4.setCell ⟨w.heap.size, 5, none⟩ (.slice (some ⟨gB, 0, none⟩) p.blks.length cB)) L (fillC R X p.blks.length) 0) := by
  refine ⟨hLl, by rw [dnK_zero]; exact hL, fun j _ hj => ?_, ⟨?_, fun j hj _ => ?_⟩, ?_, ?_, fun j _ hj => ?_, ?_, ?_, ?_, Nat.le_refl _⟩
  ·have hm := hLi (L.getD j default) (by simp [List.getD, hj])
   have e : (L.getD j default).1 = p.blks.getD j default := by rw [← hL]; simp [List.getD, hj]
   rw [e] at hm
   exact hm
  ·exact World.ownsRow.kept (ow_base hLo' s3) (but_grownK hbut) (.inr (row_not hLo' HH0 (by decide)))
  ·exact .inl (hLi _ (by simp [List.getD, hj]))
  ·exact ((HT.out.base s2).below hb4).keep hbut HH0 (by decide) (by decide)
  ·rw [fillC_len, HXL.out]
  ·rw [fillC_at _ _ _ _ (by rw [HXL.out]; exact hj), if_pos hj]; rfl
  ·rw [heap_setCell_same _ _ _ _ _ _ HH0]; rfl
  ·exact (Below.heap_setCell _ ⟨_, 5, none⟩ _ _ (by dsimp only; omega)).trans HH1
  ·exact BB4.out.setCell (p := ⟨w.heap.size, 5, none⟩) (Nat.le_refl _) _
 obtain ⟨q0, q1, q2, q3, q4, q5, lq⟩ := cl6 HH0
 have fq := frozen_of_heap HH0 5
 clear hLi hLo hLo' HH1 BB4 hz5 hbut H0 H1 HT B3 hb4 p0 p1 p2 p3 p4 p5 lp hL hLl
 go_upto_region 3 with (fail)
 clear HH0 q0 q1 q2 q3 q4 q5 lq fq
 generalize w4.setCell ⟨w.heap.size, 5, none⟩ (.slice (some ⟨gB, 0, none⟩) p.blks.length cB) = w5 at *
 obtain ⟨q0, q1, q2, q3, q4, q5, lq⟩ := cl6 S0.out.b0
 go_wp2_with fail
 go_loopw [20] (fun i wr => ∃ (k : Nat) (L : List (Bk × Value)) (X' : Tb), k ≤ p.blks.length ∧ i = .int .i64 (k : Int) ∧ Hid (KnS p R X w (w.heap.size + 2) nm (.slice ao p.objs.length co) gB cB gt ct rs wr L X' k)) (fun i _ => p.blks.length - (intOf i).toNat)
 case atStart => exact ⟨0, _, _, Nat.zero_le _, rfl, S0⟩
 case round =>
  clear S0 q0 q1 q2 q3 q4 q5 lq
  obtain ⟨wA, rfl⟩ : ∃ wA, wA = wr := ⟨wr, rfl⟩
  obtain ⟨k, L, X', hk, rfl, S⟩ := hrel
  by_cases hlt : k < p.blks.length
  ·have g1 : decide (k < p.blks.length) = true := decide_eq_true hlt
   have g2 : decide ((k : Int) < (p.blks.length : Int)) = true := decide_eq_true (by omega)
   have hEW : Ext w wA := Ext.below S.out.bl
   obtain ⟨q0, q1, q2, q3, q4, q5, lq⟩ := cl6 S.out.b0
   have hkL : k < L.length := by rw [S.out.len]; exact hlt
   obtain ⟨c0, c1, c2, c3, c4, cf, lgB⟩ := S.out.kb.at hkL
   have hxr := S.out.xr k (Nat.le_refl _) hlt
   obtain ⟨tc, tf⟩ := S.out.tb.cell (i := k) (by rw [S.out.xl]; exact hlt)
   have hrow := S.out.tb.row k (by rw [S.out.xl]; exact hlt)
   rw [hxr] at hrow
   obtain ⟨x, hrs⟩ : ∃ x, rs.getD k none = some x := by
    cases e : rs.getD k none with
    | none => rw [e] at hrow; exact hrow.elim
    | some x => exact ⟨x, rfl⟩
   rw [hrs] at hrow tc
   obtain ⟨hrq, hrl, hrok, hrB⟩ := hrow
   unfold rowVC at tc
   dsimp only at tc
   have hins := S.out.on k (Nat.le_refl _) hkL
   have hfst : (L.getD k default).1 = p.blks.getD k default := by
    have e : (L.getD k default).1 = (L.map Prod.fst).getD k default := by simp [List.getD, hkL]
    rw [e, S.out.is, dnK_at hlt, if_neg (Nat.lt_irrefl _)]
   rw [hfst] at c1 c2 c3 c4
   obtain ⟨hIC, hIL⟩ := HI.out k hlt
   generalize hbk : p.blks.getD k default = BK at *
   generalize hvk : (L.getD k default).2 = vk at *
   have lgt := S.out.tb.lt
   have HINS := Lib.hid hins
   obtain ⟨aK, cK, rfl, i1, i2, -⟩ := hins
   go_wp2_with fail
   refine (copyIn0 w wA HINS.out hEW (by omega)).mono ?_
   clear HINS
   rintro e w5 ⟨v5, LI, rfl, hLI, hLa, hLo, hb5⟩
   have hml : LI.length = BK.ins.length := by rw [← hLI, List.length_map]
   rw [hml] at hLo
   obtain ⟨aI, cI, rfl⟩ := ow_form hLo
   obtain ⟨gI, hgI1, hgI2⟩ : ∃ gI, (wA.heap.size ≤ gI ∨ gI = w.heap.size) ∧ (∀ z, aI = some z → z = ⟨gI, 0, none⟩) := by
    obtain ⟨-, ⟨e, -⟩ | ⟨g', cap, cur, e, h1, -⟩⟩ := hLo
    ·simp only [Value.slice.injEq] at e
     exact ⟨w.heap.size, .inr rfl, fun z hz => by rw [e.1] at hz; cases hz⟩
    ·simp only [Value.slice.injEq] at e
     exact ⟨g', .inl h1, fun z hz => by rw [e.1] at hz; cases hz; rfl⟩
   have hkb0 : KbM w (w.heap.size + 2) wA gB cB L k gI := ⟨S.out.kb.own, fun j hj hne => by
    have h1 := S.out.kb.ins j hj (by omega)
    rcases hgI1 with h2 | h2
    ·exact h1.other (.inl h2)
    ·rw [h2]; exact h1⟩
   have hkb5 := hkb0.below hb5
   obtain ⟨hgB, csB, hcB⟩ := hkb5.heap (by omega)
   have hputB : But gB w5 (w5.setCell ⟨gB, k * 5, none⟩ (.slice aI BK.ins.length cI)) := But.setCell gB _ w5 _
   have hkb6 := hkb5.put hkL (j := 0) (by decide) (u := .slice aI BK.ins.length cI) (x := (BK, .slice aI BK.ins.length cI)) (by unfold bkCells; rw [hfst]; rfl)
   have S6 : Hid (KnI R w (w.heap.size + 2) gB cB gt ct rs (L.set k (BK, .slice aI BK.ins.length cI)) X' k gI aI cI BK.ins.length (atB R X k) BK.ins (.cells #[.string nm, .bool p.void, .int .i64 p.params, .int .i64 R, .slice ao p.objs.length co, .slice (some ⟨gB, 0, none⟩) p.blks.length cB] 31) (w5.setCell ⟨gB, k * 5, none⟩ (.slice aI BK.ins.length cI)) LI 0 0) := by
    refine ⟨hml, by rw [hLI]; rfl, hLa, ?_, hkb6, ?_, ?_, ?_, ?_⟩
    ·exact World.ownsRow.kept (ow_base hLo (by have := S.out.bl.size; have := S.out.tb.gB; have := S.out.tb.lt; omega)) (but_grownK hputB) (.inr (row_not hLo hcB (by decide)))
    ·have e : X'.set k (some (thrC (atB R X k) (BK.ins.take 0))) = X' := by
      rw [show thrC (atB R X k) (BK.ins.take 0) = atB R X k from rfl, ← hxr]
      refine List.ext_getElem (by simp) fun i h1 h2 => ?_
      rw [List.getElem_set]
      split
      ·rename_i e; subst e; simp [List.getD, h2]
      ·rfl
     rw [e]
     exact (S.out.tb.below hb5).keep hputB hcB (by decide) (by decide)
    ·exact (Below.heap_setCell _ ⟨gB, k * 5, none⟩ _ _ (by dsimp only; omega)).trans ((hb5.block _ (by omega)).trans S.out.b0)
    ·exact (Below.heap_setCell _ ⟨gB, k * 5, none⟩ _ _ (by dsimp only; omega)).trans ((hb5.block _ (by have := S.out.tb.gB; have := S.out.tb.lt; omega)).trans S.out.b1)
    ·exact (S.out.bl.trans (hb5.mono S.out.bl.size)).setCell (p := ⟨gB, k * 5, none⟩) (by dsimp only; omega) _
   obtain ⟨d0, -, -, -, -, df, lgB5⟩ := hkb5.at hkL
   have df0 := df (k * 5)
   clear c0 c1 c2 c3 c4 cf tc tf q0 q1 q2 q3 q4 q5 lq
   go_upto_region 9 with (fail)
   clear d0 df0 df lgB5 hputB hkb6 hkb5 hkb0 hLo hLI hLa hml hcB
   generalize w5.setCell ⟨gB, k * 5, none⟩ (.slice aI BK.ins.length cI) = w6 at *
   have hgd : ∀ x : Bk × Value, (L.set k x).getD k default = x := fun x => by simp [List.getD, hkL]
   have HGD := Lib.hid hgd
   clear hgd
   have hkL1 : k < (L.set k (BK, .slice aI BK.ins.length cI)).length := by simpa using hkL
   obtain ⟨c0, c1, c2, c3, c4, cf, lgB⟩ := S6.out.kb.at hkL1
   rw [HGD.out] at c0 c1 c2 c3 c4
   dsimp only at c0 c1 c2 c3 c4
   have hb5s := hb5.size
   go_wp2_with fail
   go_loopw [44] (fun i wr => ∃ (q : Nat) (LJ : List (In × Value)), q ≤ BK.ins.length ∧ i = .int .i64 (q : Int) ∧ Hid (KnI R w (w.heap.size + 2) gB cB gt ct rs (L.set k (BK, .slice aI BK.ins.length cI)) X' k gI aI cI BK.ins.length (atB R X k) BK.ins (.cells #[.string nm, .bool p.void, .int .i64 p.params, .int .i64 R, .slice ao p.objs.length co, .slice (some ⟨gB, 0, none⟩) p.blks.length cB] 31) wr LJ q q)) (fun i _ => BK.ins.length - (intOf i).toNat)
   case atStart => exact ⟨0, _, Nat.zero_le _, rfl, S6⟩
   case round =>
    clear S6 c0 c1 c2 c3 c4 cf lgB
    obtain ⟨wq, rfl⟩ : ∃ wq, wq = wr := ⟨wr, rfl⟩
    obtain ⟨q, LJ, hq, rfl, I⟩ := hrel
    by_cases hql : q < BK.ins.length
    ·have g3 : decide (q < BK.ins.length) = true := decide_eq_true hql
     have g4 : decide ((q : Int) < (BK.ins.length : Int)) = true := decide_eq_true (by omega)
     obtain ⟨gI', c', e⟩ := own_slice I.out.own (by omega)
     simp only [Value.slice.injEq] at e
     obtain ⟨rfl, -, rfl⟩ := e
     have hgi := hgI2 _ rfl
     simp only [Addr.mk.injEq, and_true] at hgi
     obtain rfl := hgi
     obtain ⟨hgIB, csI, hcI⟩ := own_heap I.out.own (by omega)
     have lgI := (Array.getElem?_eq_some_iff.1 hcI).1
     have hqJ : q < LJ.length := by rw [I.out.len]; exact hql
     have hcell := fun r (hr : r < 11) => (World.ownsRow.cellAt I.out.own (q * 11 + r) (by omega)).trans (flat_atI LJ q r hqJ hr)
     have hJq : (LJ.getD q default).1 = BK.ins.getD q default := by
      have e : (LJ.getD q default).1 = (LJ.map Prod.fst).getD q default := by simp [List.getD, hqJ]
      rw [e, I.out.is]
      have hl : ((knwL (atB R X k) BK.ins).take q).length = q := by rw [List.length_take, knwL_len]; omega
      simp only [List.getD]
      rw [List.getElem?_append_right (by rw [hl]; exact Nat.le_refl _), hl, Nat.sub_self, List.getElem?_drop, Nat.add_zero]
     have hJa := I.out.args (LJ.getD q default) (by simp [List.getD, hqJ])
     have HTK := Lib.hid (thrC_take (atB R X k) BK.ins q hql)
     have HKN := Lib.hid (knwL_at BK.ins (atB R X k) q hql)
     have hmem : BK.ins.getD q default ∈ BK.ins := by simp [List.getD, hql]
     have hnum := hIC.num _ hmem
     have hdef := hIC.defs _ hmem
     have hkX : k < X'.length := by rw [S.out.xl]; exact hlt
     have hrow := I.out.tb.row k (by simpa using hkX)
     rw [hrs, show (X'.set k (some (thrC (atB R X k) (BK.ins.take q)))).getD k none = some (thrC (atB R X k) (BK.ins.take q)) by simp [List.getD, hkX]] at hrow
     obtain ⟨hr1, hr2, hr3, hr4⟩ := hrow
     have hrlt := hr1.lt
     have HTU : Hid (∀ W, But x.1 wq W → RowQ W x.1 x.2 (behC (thrC (atB R X k) (BK.ins.take q)) (BK.ins.getD q default)) → KnI R w (w.heap.size + 2) gB cB gt ct rs (L.set k (BK, .slice (some ⟨gI', 0, none⟩) BK.ins.length cI)) X' k gI' (some ⟨gI', 0, none⟩) cI BK.ins.length (atB R X k) BK.ins (.cells #[.string nm, .bool p.void, .int .i64 p.params, .int .i64 R, .slice ao p.objs.length co, .slice (some ⟨gB, 0, none⟩) p.blks.length cB] 31) W LJ q (q + 1)) := fun W hW hQ => I.out.turn hkX hrs hW (by rw [HTK.out]; exact hQ) (by rw [thrC_len]; exact hrl) (by rw [HTK.out]; exact behC_ok hr3 hnum) (Nat.le_refl _)
     have HBH : Hid (∀ W va, Below wq.heap.size wq W → RdI W va (BK.ins.getD q default).args → Calls Tryd.prog 16 #[.slice (some ⟨x.1, 0, none⟩) R x.2, aggI (BK.ins.getD q default) va] W (BehQ x.1 x.2 (behC (thrC (atB R X k) (BK.ins.take q)) (BK.ins.getD q default)) W)) := fun W va hW hv => by
      have h := behind_c x.1 x.2 (thrC (atB R X k) (BK.ins.take q)) (BK.ins.getD q default) va W (hr1.below hW) hr3 hv (fun hd => by rw [thrC_len, hrl]; exact hdef hd)
      rw [hr2] at h
      exact h
     have HRD : Hid ((behC (thrC (atB R X k) (BK.ins.take q)) (BK.ins.getD q default)).length = R) := by
      show _ = _
      rw [behC_len, hr2]
     rw [HTK.out] at HKN
     have HE : Hid ((knwL (atB R X k) BK.ins).getD q default = knwI (behC (thrC (atB R X k) (BK.ins.take q)) (BK.ins.getD q default)) (BK.ins.getD q default)) := HKN.out
     have HEW2 : Hid (Ext w wq) := Ext.below I.out.bl
     clear hr1 hr2 hr3 hr4 hmem hnum hdef HKN HTK
     generalize behC (thrC (atB R X k) (BK.ins.take q)) (BK.ins.getD q default) = T' at *
     generalize hJy : LJ.getD q default = y at *
     clear hJy
     obtain ⟨yi, va⟩ := y
     dsimp only at hJq hJa hcell
     subst hJq
     generalize hIq : BK.ins.getD q default = Iq at *
     have HIQ := Lib.hid hIq
     clear hIq
     have HRV := Lib.hid hJa
     obtain ⟨aa, ac, rfl, -⟩ := hJa
     obtain ⟨op, d, a, b, fn, obj, off, size, num, args, lg⟩ := Iq
     have c0 := hcell 0 (by decide)
     have c1 := hcell 1 (by decide)
     have c2 := hcell 2 (by decide)
     have c3 := hcell 3 (by decide)
     have c4 := hcell 4 (by decide)
     have c5 := hcell 5 (by decide)
     have c6 := hcell 6 (by decide)
     have c7 := hcell 7 (by decide)
     have c8 := hcell 8 (by decide)
     have c9 := hcell 9 (by decide)
     have c10 := hcell 10 (by decide)
     unfold inCells at c0 c1 c2 c3 c4 c5 c6 c7 c8 c9 c10
     dsimp only [List.getElem?_cons_zero, List.getElem?_cons_succ] at c0 c1 c2 c3 c4 c5 c6 c7 c8 c9 c10
     simp only [List.getElem?_cons_zero, List.getElem?_cons_succ, Nat.add_zero] at c0 c1 c2 c3 c4 c5 c6 c7 c8 c9 c10
     clear hcell
     unfold aggI at HBH
     dsimp only at HBH HE HRV
     go_wp2_with fail
     have hA8 := below_alloc wq (.cells #[.int .i64 op, .int .i64 d, .int .i64 a, .int .i64 b, .int .i64 fn, .int .i64 obj, .int .i64 off, .int .i64 size, .int .u32 num, .slice aa args.length ac, .bool lg] 40)
     have Z8 : Hid ((wq.alloc (.cells #[.int .i64 op, .int .i64 d, .int .i64 a, .int .i64 b, .int .i64 fn, .int .i64 obj, .int .i64 off, .int .i64 size, .int .u32 num, .slice aa args.length ac, .bool lg] 40)).heap[wq.heap.size]? = some (.cells #[.int .i64 op, .int .i64 d, .int .i64 a, .int .i64 b, .int .i64 fn, .int .i64 obj, .int .i64 off, .int .i64 size, .int .u32 num, .slice aa args.length ac, .bool lg] 40)) := heap_alloc_new wq _
     have l8 : wq.heap.size < (wq.alloc (.cells #[.int .i64 op, .int .i64 d, .int .i64 a, .int .i64 b, .int .i64 fn, .int .i64 obj, .int .i64 off, .int .i64 size, .int .u32 num, .slice aa args.length ac, .bool lg] 40)).heap.size := by simp
     generalize wq.alloc (.cells #[.int .i64 op, .int .i64 d, .int .i64 a, .int .i64 b, .int .i64 fn, .int .i64 obj, .int .i64 off, .int .i64 size, .int .u32 num, .slice aa args.length ac, .bool lg] 40) = w8 at *
     refine (HBH.out w8 _ hA8 (HRV.out.ext (HEW2.out.trans (Ext.below hA8)))).mono ?_
     clear HBH
     rintro e w9 ⟨rfl, hq9, hb9⟩
     have I9 := Lib.hid (HTU.out w9 ((But.below hA8).trans hb9) hq9)
     have Z9 := Lib.hid ((hb9.block _ l8 (by omega)).trans Z8.out)
     have HQ9 := Lib.hid hq9
     generalize wq.heap.size = b8 at *
     clear hq9 hb9 hA8 Z8 HTU I HRV HEW2 c0 c1 c2 c3 c4 c5 c6 c7 c8 c9 c10 lgI hcI hgIB l8 hrlt
     obtain ⟨c0, c1, c2, c3, c4, c5, c6, c7, c8, c9, c10, l8⟩ := cl11 Z9.out
     have HAT : Hid (∀ W, Below w9.heap.size w9 W → Calls Tryd.prog 17 #[.slice (some ⟨x.1, 0, none⟩) R x.2, .int .i64 d] W fun e w' => e = .returned (cellV (cAt T' d)) ∧ Below W.heap.size W w') := fun W hW => by
      have h := atC_c x.1 x.2 T' d W (HQ9.out.below hW).rd
      rw [HRD.out] at h
      exact h
     have HSM : Hid (knwI T' ⟨op, d, a, b, fn, obj, off, size, num, args, lg⟩ = ⟨op, d, a, b, fn, obj, off, size, num, args, lg⟩ → KnI R w (w.heap.size + 2) gB cB gt ct rs (L.set k (BK, .slice (some ⟨gI', 0, none⟩) BK.ins.length cI)) X' k gI' (some ⟨gI', 0, none⟩) cI BK.ins.length (atB R X k) BK.ins (.cells #[.string nm, .bool p.void, .int .i64 p.params, .int .i64 R, .slice ao p.objs.length co, .slice (some ⟨gB, 0, none⟩) p.blks.length cB] 31) w9 LJ (q + 1) (q + 1)) := fun h => I9.out.same hql (by rw [HE.out, h, HIQ.out])
     by_cases hop : op = 3 ∨ op = 4 ∨ op = 2
     ·cases hc : cAt T' d with
      | none =>
       have I10 := Lib.hid (HSM.out (by unfold knwI; rw [if_pos (by dsimp only; omega)]; dsimp only; rw [hc]))
       rw [hc] at HAT
       unfold cellV at HAT
       simp only [Option.isSome_none, Option.getD_none] at HAT
       clear hc HSM HE HIQ HQ9 I9 HRD Z9
       by_cases o3 : op = 3
       ·have g5 : (op == 3) = true := beq_iff_eq.2 o3
        clear hop o3
        go_wp2_with fail
        refine (HAT.out w9 (Below.refl _ _)).mono ?_
        clear HAT
        rintro e w10 ⟨rfl, hb10⟩
        have I11 := Lib.hid ((I10.out.below hb10).below (below_alloc w10 (.cells #[.bool false, .int .u32 0] 54)))
        clear I10 hb10
        go_wp2_with fail
        go_roundw
        case rel => exact ⟨q + 1, LJ, hql, by go_num, I11⟩
        case measure => simp [intOf]; omega
       ·have g5 : (op == 3) = false := beq_eq_false_iff_ne.2 o3
        by_cases o4 : op = 4
        ·have g6 : (op == 4) = true := beq_iff_eq.2 o4
         clear hop o3 o4
         go_wp2_with fail
         refine (HAT.out w9 (Below.refl _ _)).mono ?_
         clear HAT
         rintro e w10 ⟨rfl, hb10⟩
         have I11 := Lib.hid ((I10.out.below hb10).below (below_alloc w10 (.cells #[.bool false, .int .u32 0] 54)))
         clear I10 hb10
         go_wp2_with fail
         go_roundw
         case rel => exact ⟨q + 1, LJ, hql, by go_num, I11⟩
         case measure => simp [intOf]; omega
        ·have g6 : (op == 4) = false := beq_eq_false_iff_ne.2 o4
         have g7 : (op == 2) = true := beq_iff_eq.2 (by omega)
         clear hop o3 o4
         go_wp2_with fail
         refine (HAT.out w9 (Below.refl _ _)).mono ?_
         clear HAT
         rintro e w10 ⟨rfl, hb10⟩
         have I11 := Lib.hid ((I10.out.below hb10).below (below_alloc w10 (.cells #[.bool false, .int .u32 0] 54)))
         clear I10 hb10
         go_wp2_with fail
         go_roundw
         case rel => exact ⟨q + 1, LJ, hql, by go_num, I11⟩
         case measure => simp [intOf]; omega
      | some n =>
       have HE2 : Hid ((knwL (atB R X k) BK.ins).getD q default = constI d n) := by
        show _ = _
        rw [HE.out]
        unfold knwI
        rw [if_pos (by dsimp only; omega)]
        dsimp only
        rw [hc]
       rw [hc] at HAT
       unfold cellV at HAT
       simp only [Option.isSome_some, Option.getD_some] at HAT
       clear hc HSM HE HIQ HQ9 HRD
       by_cases o3 : op = 3
       ·have g5 : (op == 3) = true := beq_iff_eq.2 o3
        clear hop o3
        go_wp2_with fail
        refine (HAT.out w9 (Below.refl _ _)).mono ?_
        clear HAT
        rintro e w10 ⟨rfl, hb10⟩
        have I10 := Lib.hid (I9.out.below hb10)
        have Z10 := Lib.hid ((hb10.block _ l8).trans Z9.out)
        clear I9 Z9 hb10 c0 c1 c2 c3 c4 c5 c6 c7 c8 c9 c10 l8
        go_upto_region 15 with (fail)
        have I11 := Lib.hid (I10.out.below (below_alloc w10 (.cells #[.bool true, .int .u32 n] 54)))
        have Z11 := Lib.hid (((below_alloc w10 (.cells #[.bool true, .int .u32 n] 54)).block _ (Array.getElem?_eq_some_iff.1 Z10.out).1).trans Z10.out)
        have Y11 : Hid ((w10.alloc (.cells #[.bool true, .int .u32 n] 54)).heap[w10.heap.size]? = some (.cells #[.bool true, .int .u32 n] 54)) := heap_alloc_new w10 _
        clear I10 Z10
        generalize w10.alloc (.cells #[.bool true, .int .u32 n] 54) = w11 at *
        generalize w10.heap.size = b9 at *
        obtain ⟨c0, c1, c2, c3, c4, c5, c6, c7, c8, c9, c10, l8⟩ := cl11 Z11.out
        obtain ⟨y0, y1, ly⟩ := cl2 Y11.out
        obtain ⟨k0, k1, k2, k3, k4, kf, lgB⟩ := I11.out.kb.at hkL1
        rw [HGD.out] at k0 k1 k2 k3 k4
        dsimp only at k0 k1 k2 k3 k4
        go_wp2_with fail
        refine wp_region_game (fun z => z = gB ∨ z = b8 ∨ z = b9) (by kernel_rfl) ?_
        show wpE _ _ _ _ _ _ _ w11.drew
        refine E_mob2s [0, 1, 2, 3, 4, 5, 6, 7, 8] _ _ _ _ (by kernel_rfl) ?_
        simp only [List.map_cons, List.map_nil, List.getElem?_toArray, List.getElem?_cons_succ, List.getElem?_cons_zero, Option.getD_some, List.size_toArray, List.length_cons, List.length_nil, Nat.reduceAdd, Nat.reduceSub]
        repeat (go_big_quiet_step (fail))
        refine wpQuiet_nil ?_
        refine E_loud1 9 _ rfl (by kernel_rfl) ?_
        simp only [List.getElem_toArray, List.getElem_cons_succ, List.getElem_cons_zero]
        go_wp2_with fail
        refine (constant_c d n _).mono ?_
        rintro e w12 ⟨rfl, hb12⟩
        have I12 := Lib.hid (I11.out.below ((Below.refl w11.heap.size w11).drew.trans hb12))
        have HK12 : Hid (Keep (fun z => z = gB ∨ z = b8 ∨ z = b9) w11.drew w12) := keep_below hb12 (fun z hz => by rcases hz with rfl | rfl | rfl <;> assumption)
        clear hb12 c0 c1 c2 c3 c4 c5 c6 c7 c8 c9 c10 y0 y1 k0 k1 k2 k3 k4 kf I11
        have I13 := Lib.hid (I12.out.lay hql rfl HE2.out (Nat.le_refl _))
        have hqJ2 : q < LJ.length := by rw [I12.out.len]; exact hql
        have hcell := fun r (hr : r < 11) => (World.ownsRow.cellAt I12.out.own (q * 11 + r) (by omega)).trans (flat_atI LJ q r hqJ2 hr)
        obtain ⟨-, csJ, hcJ⟩ := own_heap I12.out.own (by omega)
        have hfr := fun r => frozen_of_heap hcJ (q * 11 + r)
        generalize LJ.getD q default = yy at *
        obtain ⟨⟨yop, yd, ya, yb, yfn, yobj, yoff, ysize, ynum, yargs, ylg⟩, yv⟩ := yy
        have c0 := hcell 0 (by decide)
        have c1 := hcell 1 (by decide)
        have c2 := hcell 2 (by decide)
        have c3 := hcell 3 (by decide)
        have c4 := hcell 4 (by decide)
        have c5 := hcell 5 (by decide)
        have c6 := hcell 6 (by decide)
        have c7 := hcell 7 (by decide)
        have c8 := hcell 8 (by decide)
        have c9 := hcell 9 (by decide)
        have c10 := hcell 10 (by decide)
        unfold inCells at c0 c1 c2 c3 c4 c5 c6 c7 c8 c9 c10
        dsimp only [List.getElem?_cons_zero, List.getElem?_cons_succ] at c0 c1 c2 c3 c4 c5 c6 c7 c8 c9 c10
        simp only [List.getElem?_cons_zero, List.getElem?_cons_succ, Nat.add_zero] at c0 c1 c2 c3 c4 c5 c6 c7 c8 c9 c10
        have f0 := hfr 0
        have f1 := hfr 1
        have f2 := hfr 2
        have f3 := hfr 3
        have f4 := hfr 4
        have f5 := hfr 5
        have f6 := hfr 6
        have f7 := hfr 7
        have f8 := hfr 8
        have f9 := hfr 9
        have f10 := hfr 10
        rw [Nat.add_zero] at f0
        clear hcell hfr hcJ I12
        go_wp2_with fail
        refine ⟨HK12.out, ?_⟩
        refine E_mob2s [10] _ _ _ _ (by kernel_rfl) ?_
        simp only [List.map_cons, List.map_nil, List.getElem?_toArray, List.getElem?_cons_succ, List.getElem?_cons_zero, Option.getD_some, List.size_toArray, List.length_cons, List.length_nil, Nat.reduceAdd, Nat.reduceSub]
        repeat (go_big_quiet_step (fail))
        refine wpQuiet_nil ?_
        refine E_last 11 _ rfl (by kernel_rfl) ?_
        simp only [List.getElem_toArray, List.getElem_cons_succ, List.getElem_cons_zero]
        go_wp2_with fail
        refine E_done (by kernel_rfl) ?_ _
        clear c0 c1 c2 c3 c4 c5 c6 c7 c8 c9 c10 f0 f1 f2 f3 f4 f5 f6 f7 f8 f9 f10 HK12
        go_wp2_with fail
        go_roundw
        case rel => exact ⟨q + 1, _, hql, by go_num, I13⟩
        case measure => simp [intOf]; omega
       ·have g5 : (op == 3) = false := beq_eq_false_iff_ne.2 o3
        by_cases o4 : op = 4
        ·have g6 : (op == 4) = true := beq_iff_eq.2 o4
         clear hop o3 o4
         go_wp2_with fail
         refine (HAT.out w9 (Below.refl _ _)).mono ?_
         clear HAT
         rintro e w10 ⟨rfl, hb10⟩
         have I10 := Lib.hid (I9.out.below hb10)
         have Z10 := Lib.hid ((hb10.block _ l8).trans Z9.out)
         clear I9 Z9 hb10 c0 c1 c2 c3 c4 c5 c6 c7 c8 c9 c10 l8
         go_upto_region 15 with (fail)
         have I11 := Lib.hid (I10.out.below (below_alloc w10 (.cells #[.bool true, .int .u32 n] 54)))
         have Z11 := Lib.hid (((below_alloc w10 (.cells #[.bool true, .int .u32 n] 54)).block _ (Array.getElem?_eq_some_iff.1 Z10.out).1).trans Z10.out)
         have Y11 : Hid ((w10.alloc (.cells #[.bool true, .int .u32 n] 54)).heap[w10.heap.size]? = some (.cells #[.bool true, .int .u32 n] 54)) := heap_alloc_new w10 _
         clear I10 Z10
         generalize w10.alloc (.cells #[.bool true, .int .u32 n] 54) = w11 at *
         generalize w10.heap.size = b9 at *
         obtain ⟨c0, c1, c2, c3, c4, c5, c6, c7, c8, c9, c10, l8⟩ := cl11 Z11.out
         obtain ⟨y0, y1, ly⟩ := cl2 Y11.out
         obtain ⟨k0, k1, k2, k3, k4, kf, lgB⟩ := I11.out.kb.at hkL1
         rw [HGD.out] at k0 k1 k2 k3 k4
         dsimp only at k0 k1 k2 k3 k4
         go_wp2_with fail
         refine wp_region_game (fun z => z = gB ∨ z = b8 ∨ z = b9) (by kernel_rfl) ?_
         show wpE _ _ _ _ _ _ _ w11.drew
         refine E_mob2s [0, 1, 2, 3, 4, 5, 6, 7, 8] _ _ _ _ (by kernel_rfl) ?_
         simp only [List.map_cons, List.map_nil, List.getElem?_toArray, List.getElem?_cons_succ, List.getElem?_cons_zero, Option.getD_some, List.size_toArray, List.length_cons, List.length_nil, Nat.reduceAdd, Nat.reduceSub]
         repeat (go_big_quiet_step (fail))
         refine wpQuiet_nil ?_
         refine E_loud1 9 _ rfl (by kernel_rfl) ?_
         simp only [List.getElem_toArray, List.getElem_cons_succ, List.getElem_cons_zero]
         go_wp2_with fail
         refine (constant_c d n _).mono ?_
         rintro e w12 ⟨rfl, hb12⟩
         have I12 := Lib.hid (I11.out.below ((Below.refl w11.heap.size w11).drew.trans hb12))
         have HK12 : Hid (Keep (fun z => z = gB ∨ z = b8 ∨ z = b9) w11.drew w12) := keep_below hb12 (fun z hz => by rcases hz with rfl | rfl | rfl <;> assumption)
         clear hb12 c0 c1 c2 c3 c4 c5 c6 c7 c8 c9 c10 y0 y1 k0 k1 k2 k3 k4 kf I11
         have I13 := Lib.hid (I12.out.lay hql rfl HE2.out (Nat.le_refl _))
         have hqJ2 : q < LJ.length := by rw [I12.out.len]; exact hql
         have hcell := fun r (hr : r < 11) => (World.ownsRow.cellAt I12.out.own (q * 11 + r) (by omega)).trans (flat_atI LJ q r hqJ2 hr)
         obtain ⟨-, csJ, hcJ⟩ := own_heap I12.out.own (by omega)
         have hfr := fun r => frozen_of_heap hcJ (q * 11 + r)
         generalize LJ.getD q default = yy at *
         obtain ⟨⟨yop, yd, ya, yb, yfn, yobj, yoff, ysize, ynum, yargs, ylg⟩, yv⟩ := yy
         have c0 := hcell 0 (by decide)
         have c1 := hcell 1 (by decide)
         have c2 := hcell 2 (by decide)
         have c3 := hcell 3 (by decide)
         have c4 := hcell 4 (by decide)
         have c5 := hcell 5 (by decide)
         have c6 := hcell 6 (by decide)
         have c7 := hcell 7 (by decide)
         have c8 := hcell 8 (by decide)
         have c9 := hcell 9 (by decide)
         have c10 := hcell 10 (by decide)
         unfold inCells at c0 c1 c2 c3 c4 c5 c6 c7 c8 c9 c10
         dsimp only [List.getElem?_cons_zero, List.getElem?_cons_succ] at c0 c1 c2 c3 c4 c5 c6 c7 c8 c9 c10
         simp only [List.getElem?_cons_zero, List.getElem?_cons_succ, Nat.add_zero] at c0 c1 c2 c3 c4 c5 c6 c7 c8 c9 c10
         have f0 := hfr 0
         have f1 := hfr 1
         have f2 := hfr 2
         have f3 := hfr 3
         have f4 := hfr 4
         have f5 := hfr 5
         have f6 := hfr 6
         have f7 := hfr 7
         have f8 := hfr 8
         have f9 := hfr 9
         have f10 := hfr 10
         rw [Nat.add_zero] at f0
         clear hcell hfr hcJ I12
         go_wp2_with fail
         refine ⟨HK12.out, ?_⟩
         refine E_mob2s [10] _ _ _ _ (by kernel_rfl) ?_
         simp only [List.map_cons, List.map_nil, List.getElem?_toArray, List.getElem?_cons_succ, List.getElem?_cons_zero, Option.getD_some, List.size_toArray, List.length_cons, List.length_nil, Nat.reduceAdd, Nat.reduceSub]
         repeat (go_big_quiet_step (fail))
         refine wpQuiet_nil ?_
         refine E_last 11 _ rfl (by kernel_rfl) ?_
         simp only [List.getElem_toArray, List.getElem_cons_succ, List.getElem_cons_zero]
         go_wp2_with fail
         refine E_done (by kernel_rfl) ?_ _
         clear c0 c1 c2 c3 c4 c5 c6 c7 c8 c9 c10 f0 f1 f2 f3 f4 f5 f6 f7 f8 f9 f10 HK12
         go_wp2_with fail
         go_roundw
         case rel => exact ⟨q + 1, _, hql, by go_num, I13⟩
         case measure => simp [intOf]; omega
        ·have g6 : (op == 4) = false := beq_eq_false_iff_ne.2 o4
         have g7 : (op == 2) = true := beq_iff_eq.2 (by omega)
         clear hop o3 o4
         go_wp2_with fail
         refine (HAT.out w9 (Below.refl _ _)).mono ?_
         clear HAT
         rintro e w10 ⟨rfl, hb10⟩
         have I10 := Lib.hid (I9.out.below hb10)
         have Z10 := Lib.hid ((hb10.block _ l8).trans Z9.out)
         clear I9 Z9 hb10 c0 c1 c2 c3 c4 c5 c6 c7 c8 c9 c10 l8
         go_upto_region 15 with (fail)
         have I11 := Lib.hid (I10.out.below (below_alloc w10 (.cells #[.bool true, .int .u32 n] 54)))
         have Z11 := Lib.hid (((below_alloc w10 (.cells #[.bool true, .int .u32 n] 54)).block _ (Array.getElem?_eq_some_iff.1 Z10.out).1).trans Z10.out)
         have Y11 : Hid ((w10.alloc (.cells #[.bool true, .int .u32 n] 54)).heap[w10.heap.size]? = some (.cells #[.bool true, .int .u32 n] 54)) := heap_alloc_new w10 _
         clear I10 Z10
         generalize w10.alloc (.cells #[.bool true, .int .u32 n] 54) = w11 at *
         generalize w10.heap.size = b9 at *
         obtain ⟨c0, c1, c2, c3, c4, c5, c6, c7, c8, c9, c10, l8⟩ := cl11 Z11.out
         obtain ⟨y0, y1, ly⟩ := cl2 Y11.out
         obtain ⟨k0, k1, k2, k3, k4, kf, lgB⟩ := I11.out.kb.at hkL1
         rw [HGD.out] at k0 k1 k2 k3 k4
         dsimp only at k0 k1 k2 k3 k4
         go_wp2_with fail
         refine wp_region_game (fun z => z = gB ∨ z = b8 ∨ z = b9) (by kernel_rfl) ?_
         show wpE _ _ _ _ _ _ _ w11.drew
         refine E_mob2s [0, 1, 2, 3, 4, 5, 6, 7, 8] _ _ _ _ (by kernel_rfl) ?_
         simp only [List.map_cons, List.map_nil, List.getElem?_toArray, List.getElem?_cons_succ, List.getElem?_cons_zero, Option.getD_some, List.size_toArray, List.length_cons, List.length_nil, Nat.reduceAdd, Nat.reduceSub]
         repeat (go_big_quiet_step (fail))
         refine wpQuiet_nil ?_
         refine E_loud1 9 _ rfl (by kernel_rfl) ?_
         simp only [List.getElem_toArray, List.getElem_cons_succ, List.getElem_cons_zero]
         go_wp2_with fail
         refine (constant_c d n _).mono ?_
         rintro e w12 ⟨rfl, hb12⟩
         have I12 := Lib.hid (I11.out.below ((Below.refl w11.heap.size w11).drew.trans hb12))
         have HK12 : Hid (Keep (fun z => z = gB ∨ z = b8 ∨ z = b9) w11.drew w12) := keep_below hb12 (fun z hz => by rcases hz with rfl | rfl | rfl <;> assumption)
         clear hb12 c0 c1 c2 c3 c4 c5 c6 c7 c8 c9 c10 y0 y1 k0 k1 k2 k3 k4 kf I11
         have I13 := Lib.hid (I12.out.lay hql rfl HE2.out (Nat.le_refl _))
         have hqJ2 : q < LJ.length := by rw [I12.out.len]; exact hql
         have hcell := fun r (hr : r < 11) => (World.ownsRow.cellAt I12.out.own (q * 11 + r) (by omega)).trans (flat_atI LJ q r hqJ2 hr)
         obtain ⟨-, csJ, hcJ⟩ := own_heap I12.out.own (by omega)
         have hfr := fun r => frozen_of_heap hcJ (q * 11 + r)
         generalize LJ.getD q default = yy at *
         obtain ⟨⟨yop, yd, ya, yb, yfn, yobj, yoff, ysize, ynum, yargs, ylg⟩, yv⟩ := yy
         have c0 := hcell 0 (by decide)
         have c1 := hcell 1 (by decide)
         have c2 := hcell 2 (by decide)
         have c3 := hcell 3 (by decide)
         have c4 := hcell 4 (by decide)
         have c5 := hcell 5 (by decide)
         have c6 := hcell 6 (by decide)
         have c7 := hcell 7 (by decide)
         have c8 := hcell 8 (by decide)
         have c9 := hcell 9 (by decide)
         have c10 := hcell 10 (by decide)
         unfold inCells at c0 c1 c2 c3 c4 c5 c6 c7 c8 c9 c10
         dsimp only [List.getElem?_cons_zero, List.getElem?_cons_succ] at c0 c1 c2 c3 c4 c5 c6 c7 c8 c9 c10
         simp only [List.getElem?_cons_zero, List.getElem?_cons_succ, Nat.add_zero] at c0 c1 c2 c3 c4 c5 c6 c7 c8 c9 c10
         have f0 := hfr 0
         have f1 := hfr 1
         have f2 := hfr 2
         have f3 := hfr 3
         have f4 := hfr 4
         have f5 := hfr 5
         have f6 := hfr 6
         have f7 := hfr 7
         have f8 := hfr 8
         have f9 := hfr 9
         have f10 := hfr 10
         rw [Nat.add_zero] at f0
         clear hcell hfr hcJ I12
         go_wp2_with fail
         refine ⟨HK12.out, ?_⟩
         refine E_mob2s [10] _ _ _ _ (by kernel_rfl) ?_
         simp only [List.map_cons, List.map_nil, List.getElem?_toArray, List.getElem?_cons_succ, List.getElem?_cons_zero, Option.getD_some, List.size_toArray, List.length_cons, List.length_nil, Nat.reduceAdd, Nat.reduceSub]
         repeat (go_big_quiet_step (fail))
         refine wpQuiet_nil ?_
         refine E_last 11 _ rfl (by kernel_rfl) ?_
         simp only [List.getElem_toArray, List.getElem_cons_succ, List.getElem_cons_zero]
         go_wp2_with fail
         refine E_done (by kernel_rfl) ?_ _
         clear c0 c1 c2 c3 c4 c5 c6 c7 c8 c9 c10 f0 f1 f2 f3 f4 f5 f6 f7 f8 f9 f10 HK12
         go_wp2_with fail
         go_roundw
         case rel => exact ⟨q + 1, _, hql, by go_num, I13⟩
         case measure => simp [intOf]; omega
     ·have g5 : (op == 3) = false := beq_eq_false_iff_ne.2 (by omega)
      have g6 : (op == 4) = false := beq_eq_false_iff_ne.2 (by omega)
      have g7 : (op == 2) = false := beq_eq_false_iff_ne.2 (by omega)
      have I10 := Lib.hid (HSM.out (by unfold knwI; rw [if_neg (by dsimp only; omega)]))
      clear hop HSM HAT HE HIQ HQ9 I9 HRD Z9
      go_wp2_with fail
      go_roundw
      case rel => exact ⟨q + 1, LJ, hql, by go_num, I10⟩
      case measure => simp [intOf]; omega
    ·obtain rfl : q = BK.ins.length := by omega
     have hkX : k < X'.length := by rw [S.out.xl]; exact hlt
     have hrow := I.out.tb.row k (by simpa using hkX)
     rw [hrs, show (X'.set k (some (thrC (atB R X k) (BK.ins.take BK.ins.length)))).getD k none = some (thrC (atB R X k) (BK.ins.take BK.ins.length)) by simp [List.getD, hkX]] at hrow
     obtain ⟨hr1, hr2, -, -⟩ := hrow
     have his := I.out.is
     rw [List.take_of_length_le (by rw [knwL_len]; exact Nat.le_refl _), List.drop_length, List.append_nil] at his
     have HIS := Lib.hid his
     rw [List.take_length] at hr1 hr2
     have HAT : Hid (Calls Tryd.prog 17 #[.slice (some ⟨x.1, 0, none⟩) R x.2, .int .i64 BK.a] wq fun e w' => e = .returned (cellV (cAt (thrC (atB R X k) BK.ins) BK.a)) ∧ Below wq.heap.size wq w') := by
      have h := atC_c x.1 x.2 (thrC (atB R X k) BK.ins) BK.a wq hr1.rd
      rw [hr2] at h
      exact h
     obtain ⟨k0, k1, k2, k3, k4, kf, lgB⟩ := I.out.kb.at hkL1
     rw [HGD.out] at k0 k1 k2 k3 k4
     dsimp only at k0 k1 k2 k3 k4
     clear hr1 hr2 his hql
     have HNX : Hid (∀ W (bk' : Bk), bk' = knwB (atB R X k) BK → KnI R w (w.heap.size + 2) gB cB gt ct rs (L.set k (BK, .slice aI BK.ins.length cI)) X' k gI aI cI BK.ins.length (atB R X k) BK.ins (.cells #[.string nm, .bool p.void, .int .i64 p.params, .int .i64 R, .slice ao p.objs.length co, .slice (some ⟨gB, 0, none⟩) p.blks.length cB] 31) W LJ BK.ins.length BK.ins.length → ∀ wz, KbM w (w.heap.size + 2) wz gB cB (L.set k (bk', .slice aI BK.ins.length cI)) k gI → But gB W wz → KnS p R X w (w.heap.size + 2) nm (.slice ao p.objs.length co) gB cB gt ct rs wz (L.set k (bk', .slice aI BK.ins.length cI)) (X'.set k (some (thrC (atB R X k) (BK.ins.take BK.ins.length)))) (k + 1)) := fun W bk' hbk' hI wz hkb hbut => by
      obtain ⟨hgB2, csG, hcG⟩ := hI.kb.heap (by omega)
      subst hbk'
      subst hbk
      refine S.out.next hlt hkb (World.ownsRow.kept hI.own (but_grownK hbut) (.inr (row_not hI.own hcG (by decide)))) hI.len HIS.out hI.args (hI.tb.keep hbut hcG (by decide) (by decide)) ?_ ?_ ?_
      ·exact (hbut.block _ (Array.getElem?_eq_some_iff.1 hI.b0).1 (by omega)).trans hI.b0
      ·exact (hbut.block _ (Array.getElem?_eq_some_iff.1 hI.b1).1 (by omega)).trans hI.b1
      ·exact hI.bl.trans (hbut.toBelow (by omega) hI.bl.size)
     have HEND := Lib.hid (knwB_end (atB R X k) BK)
     have HSA : Hid (((knwB (atB R X k) BK).fin = BK.fin ∧ (knwB (atB R X k) BK).a = BK.a ∧ (knwB (atB R X k) BK).to = BK.to ∧ (knwB (atB R X k) BK).els = BK.els) → ∀ W, KnI R w (w.heap.size + 2) gB cB gt ct rs (L.set k (BK, .slice aI BK.ins.length cI)) X' k gI aI cI BK.ins.length (atB R X k) BK.ins (.cells #[.string nm, .bool p.void, .int .i64 p.params, .int .i64 R, .slice ao p.objs.length co, .slice (some ⟨gB, 0, none⟩) p.blks.length cB] 31) W LJ BK.ins.length BK.ins.length → KnS p R X w (w.heap.size + 2) nm (.slice ao p.objs.length co) gB cB gt ct rs W (L.set k (knwB (atB R X k) BK, .slice aI BK.ins.length cI)) (X'.set k (some (thrC (atB R X k) (BK.ins.take BK.ins.length)))) (k + 1)) := fun he W hI => by
      refine HNX.out W _ rfl hI W ?_ (But.refl _ _)
      have h := hI.kb.same hkL1 (x := (knwB (atB R X k) BK, .slice aI BK.ins.length cI)) (by rw [HGD.out]; unfold bkCells; dsimp only; rw [he.1, he.2.1, he.2.2.1, he.2.2.2])
      rw [List.set_set] at h
      exact h
     generalize hTT : thrC (atB R X k) BK.ins = TT at *
     have hTT := Lib.hid hTT
     cases hc : cAt TT BK.a with
     | none =>
      have he := HEND.out
      have HS9 : Hid (∀ W, KnI R w (w.heap.size + 2) gB cB gt ct rs (L.set k (BK, .slice aI BK.ins.length cI)) X' k gI aI cI BK.ins.length (atB R X k) BK.ins (.cells #[.string nm, .bool p.void, .int .i64 p.params, .int .i64 R, .slice ao p.objs.length co, .slice (some ⟨gB, 0, none⟩) p.blks.length cB] 31) W LJ BK.ins.length BK.ins.length → KnS p R X w (w.heap.size + 2) nm (.slice ao p.objs.length co) gB cB gt ct rs W (L.set k (knwB (atB R X k) BK, .slice aI BK.ins.length cI)) (X'.set k (some (thrC (atB R X k) (BK.ins.take BK.ins.length)))) (k + 1)) := by
       rcases he with ⟨h1, -⟩ | ⟨-, n, h2, -⟩
       ·exact HSA.out h1
       ·rw [hc] at h2; cases h2
      rw [hc] at HAT
      unfold cellV at HAT
      simp only [Option.isSome_none, Option.getD_none] at HAT
      clear hc he HEND HSA HNX HIS
      go_wp2_with fail
      refine HAT.out.mono ?_
      clear HAT
      rintro e w10 ⟨rfl, hb10⟩
      have S11 := Lib.hid (HS9.out _ ((I.out.below hb10).below (below_alloc w10 (.cells #[.bool false, .int .u32 0] 54))))
      clear I hb10 HS9
      go_wp2_with fail
      go_roundw
      case rel => exact ⟨k + 1, _, _, hlt, by go_num, S11⟩
      case measure => simp [intOf]; omega
     | some n =>
      rw [hc] at HAT
      unfold cellV at HAT
      simp only [Option.isSome_some, Option.getD_some] at HAT
      by_cases hf : BK.fin = 2
      ·have g5 : (BK.fin == 2) = true := beq_iff_eq.2 hf
       have HJ : Hid (knwB (atB R X k) BK = ⟨knwL (atB R X k) BK.ins, 1, -1, (if n = 0 then BK.els else BK.to), 0⟩) := by
        show _ = _
        unfold knwB knwE
        dsimp only
        rw [if_pos hf, hTT.out, hc]; rfl
       clear hc hf HEND HSA HIS
       go_wp2_with fail
       refine HAT.out.mono ?_
       clear HAT
       rintro e w10 ⟨rfl, hb10⟩
       have I10 := Lib.hid (I.out.below hb10)
       clear I hb10 k0 k1 k2 k3 k4 kf lgB
       go_upto_region 19 with (fail)
       have I11 := Lib.hid (I10.out.below (below_alloc w10 (.cells #[.bool true, .int .u32 n] 54)))
       have Y11 : Hid ((w10.alloc (.cells #[.bool true, .int .u32 n] 54)).heap[w10.heap.size]? = some (.cells #[.bool true, .int .u32 n] 54)) := heap_alloc_new w10 _
       clear I10
       generalize w10.alloc (.cells #[.bool true, .int .u32 n] 54) = w11 at *
       generalize w10.heap.size = b9 at *
       obtain ⟨y0, y1, ly⟩ := cl2 Y11.out
       clear Y11
       obtain ⟨k0, k1, k2, k3, k4, kf, lgB⟩ := I11.out.kb.at hkL1
       rw [HGD.out] at k0 k1 k2 k3 k4
       dsimp only at k0 k1 k2 k3 k4
       go_wp2_with fail
       refine wp_region_game (fun z => z = gB ∨ z = b9) (by kernel_rfl) ?_
       show wpE _ _ _ _ _ _ _ w11.drew
       refine E_mob2s [0, 1, 2, 3, 4, 5] _ _ _ _ (by kernel_rfl) ?_
       simp only [List.map_cons, List.map_nil, List.getElem?_toArray, List.getElem?_cons_succ, List.getElem?_cons_zero, Option.getD_some, List.size_toArray, List.length_cons, List.length_nil, Nat.reduceAdd, Nat.reduceSub]
       repeat (go_big_quiet_step (fail))
       refine wpQuiet_nil ?_
       refine E_loud1 6 _ rfl (by kernel_rfl) ?_
       simp only [List.getElem_toArray, List.getElem_cons_succ, List.getElem_cons_zero]
       go_wp2_with fail
       have jc := jumped_c aI BK.ins.length cI BK.fin BK.a BK.to BK.els n w11.drew
       have HJ := HJ.out
       generalize (if n = 0 then BK.els else BK.to) = u at *
       have HJ := Lib.hid HJ
       refine jc.mono ?_
       clear jc
       rintro e w12 ⟨rfl, hb12⟩
       have I12 := Lib.hid (I11.out.below ((Below.refl w11.heap.size w11).drew.trans hb12))
       have HK12 : Hid (Keep (fun z => z = gB ∨ z = b9) w11.drew w12) := keep_below hb12 (fun z hz => by rcases hz with rfl | rfl <;> assumption)
       clear hb12 y0 y1 k0 k1 k2 k3 k4 kf lgB I11
       have hkb := I12.out.kb.put5 hkL1 (⟨knwL (atB R X k) BK.ins, 1, -1, u, 0⟩, .slice aI BK.ins.length cI)
       rw [List.set_set] at hkb
       dsimp only at hkb
       have S13 := Lib.hid (HNX.out w12 _ HJ.out.symm I12.out _ hkb (((((But.setCell gB _ w12 _).trans (But.setCell gB _ _ _)).trans (But.setCell gB _ _ _)).trans (But.setCell gB _ _ _)).trans (But.setCell gB _ _ _)))
       obtain ⟨k0, k1, k2, k3, k4, kf, lgB⟩ := I12.out.kb.at hkL1
       rw [HGD.out] at k0 k1 k2 k3 k4
       dsimp only at k0 k1 k2 k3 k4
       have kf0 := kf (k * 5)
       have kf1 := kf (k * 5 + 1)
       have kf2 := kf (k * 5 + 2)
       have kf3 := kf (k * 5 + 3)
       have kf4 := kf (k * 5 + 4)
       clear kf I12 HNX HJ hkb
       go_wp2_with fail
       refine ⟨HK12.out, ?_⟩
       refine E_mob2s [7] _ _ _ _ (by kernel_rfl) ?_
       simp only [List.map_cons, List.map_nil, List.getElem?_toArray, List.getElem?_cons_succ, List.getElem?_cons_zero, Option.getD_some, List.size_toArray, List.length_cons, List.length_nil, Nat.reduceAdd, Nat.reduceSub]
       repeat (go_big_quiet_step (fail))
       refine wpQuiet_nil ?_
       refine E_last 8 _ rfl (by kernel_rfl) ?_
       simp only [List.getElem_toArray, List.getElem_cons_succ, List.getElem_cons_zero]
       go_wp2_with fail
       refine E_done (by kernel_rfl) ?_ _
       clear k0 k1 k2 k3 k4 kf0 kf1 kf2 kf3 kf4 lgB HK12
       go_wp2_with fail
       go_roundw
       case rel => exact ⟨k + 1, _, _, hlt, by go_num, S13⟩
       case measure => simp [intOf]; omega
      ·have g5 : (BK.fin == 2) = false := beq_eq_false_iff_ne.2 hf
       have HS9 : Hid (∀ W, KnI R w (w.heap.size + 2) gB cB gt ct rs (L.set k (BK, .slice aI BK.ins.length cI)) X' k gI aI cI BK.ins.length (atB R X k) BK.ins (.cells #[.string nm, .bool p.void, .int .i64 p.params, .int .i64 R, .slice ao p.objs.length co, .slice (some ⟨gB, 0, none⟩) p.blks.length cB] 31) W LJ BK.ins.length BK.ins.length → KnS p R X w (w.heap.size + 2) nm (.slice ao p.objs.length co) gB cB gt ct rs W (L.set k (knwB (atB R X k) BK, .slice aI BK.ins.length cI)) (X'.set k (some (thrC (atB R X k) (BK.ins.take BK.ins.length)))) (k + 1)) := by
        rcases HEND.out with ⟨h1, -⟩ | ⟨h2, -⟩
        ·exact HSA.out h1
        ·exact absurd h2 hf
       clear hc hf HEND HSA HNX HIS
       go_wp2_with fail
       refine HAT.out.mono ?_
       clear HAT
       rintro e w10 ⟨rfl, hb10⟩
       have I11 := Lib.hid ((I.out.below hb10).below (below_alloc w10 (.cells #[.bool true, .int .u32 n] 54)))
       have S11 := Lib.hid (HS9.out _ I11.out)
       clear I hb10 HS9 k0 k1 k2 k3 k4 kf lgB
       obtain ⟨k0, k1, k2, k3, k4, kf, lgB⟩ := I11.out.kb.at hkL1
       rw [HGD.out] at k0 k1 k2 k3 k4
       dsimp only at k0 k1 k2 k3 k4
       go_wp2_with fail
       go_roundw
       case rel => exact ⟨k + 1, _, _, hlt, by go_num, S11⟩
       case measure => simp [intOf]; omega
  ·obtain rfl : k = p.blks.length := by omega
   have g1 : decide (p.blks.length < p.blks.length) = false := decide_eq_false (Nat.lt_irrefl _)
   have g2 : decide ((p.blks.length : Int) < (p.blks.length : Int)) = false := decide_eq_false (by omega)
   obtain ⟨q0, q1, q2, q3, q4, q5, lq⟩ := cl6 S.out.b0
   have HZ := S.out.b1
   unfold zPr at HZ
   obtain ⟨z0, z1, z2, z3, z4, z5, lz⟩ := cl6 HZ
   have u0 := frozen_of_heap HZ 0
   have u1 := frozen_of_heap HZ 1
   have u2 := frozen_of_heap HZ 2
   have u3 := frozen_of_heap HZ 3
   have u4 := frozen_of_heap HZ 4
   have u5 := frozen_of_heap HZ 5
   clear HZ
   have HEN : Hid (∀ wz, But (w.heap.size + 1) wA wz → KnwQ p R nm (.slice ao p.objs.length co) w (.returned (.agg #[.string nm, .bool p.void, .int .i64 p.params, .int .i64 R, .slice ao p.objs.length co, .slice (some ⟨gB, 0, none⟩) p.blks.length cB])) wz) := fun wz hb => by
    have hkb := S.out.kb.keep hb S.out.b1 (by decide) (.inl (by decide))
    have hbl : Below w.heap.size w wz := S.out.bl.trans (hb.toBelow (by omega) S.out.bl.size)
    have hrd := hkb.rd (Ext.below hbl)
    rw [S.out.is, dnK_all, S.out.len] at hrd
    exact ⟨X, _, rfl, HXL.out, HRU.out, HST.out, hrd, hbl⟩
   go_wp2_with fail
   refine bodyPost_ret (v := .agg #[.string nm, .bool p.void, .int .i64 p.params, .int .i64 R, .slice ao p.objs.length co, .slice (some ⟨gB, 0, none⟩) p.blks.length cB]) ?_ rfl ?_
   ·simp [results, Tryd.results8, go_sem, q0, q1, q2, q3, q4, q5, z0, z1, z2, z3, z4, z5, u0, u1, u2, u3, u4, u5]
   ·exact HEN.out _ ((((((But.setCell _ _ _ _).trans (But.setCell _ _ _ _)).trans (But.setCell _ _ _ _)).trans (But.setCell _ _ _ _)).trans (But.setCell _ _ _ _)).trans (But.setCell _ _ _ _))
end Go.Proofs.YtkhfddodmjnecaaDoor
