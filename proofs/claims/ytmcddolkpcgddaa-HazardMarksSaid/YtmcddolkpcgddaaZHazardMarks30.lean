/-
 hazard: a finder is made (newFinder).
-/
import Derived.Test.YtmcddolkpcgddaaZHazardMarks29
import Derived.Test.YtmcddolkpcgddaaZHazardMarks14
import Derived.Test.YtmcddolkpcgddaaZHazardMarks03
import Derived.Test.YtmcddolkpcgddaaZHazardMarks09
set_option linter.all false
namespace Go.Proofs.Ytmcddolkpcgddaa
open Go.ChangeShapes Go.WideShapes Go.ChangeAt Go.RowKit
set_option maxHeartbeats 4000000
set_option maxRecDepth 100000
set_option linter.unusedVariables false

def lwN (p : Pr) : Nat := ((loadsP p).length + p.regs.toNat + 63) / 64
def loadsK (p : Pr) (k : Nat) : List In := (p.blks.take k).flatMap fun b => loadsL b.ins
def fromsK (p : Pr) (k : Nat) : List Int := (List.range k).map fun n => ((fromP p n : Nat) : Int)
theorem loadsK_len (p : Pr) (k : Nat) : (loadsK p k).length = fromP p k := rfl
theorem fromsK_succ (p : Pr) (k : Nat) : fromsK p (k + 1) = fromsK p k ++ [((fromP p k : Nat) : Int)] := by unfold fromsK; rw [List.range_succ, List.map_append]; rfl
theorem loadsK_succ (p : Pr) (k : Nat) (h : k < p.blks.length) : loadsK p (k + 1) = loadsK p k ++ loadsL (p.blks.getD k default).ins := by
 unfold loadsK
 have e : p.blks.getD k default = p.blks[k] := by simp [List.getD, h]
 rw [e, List.take_succ_eq_append_getElem h, List.flatMap_append]
 simp
theorem loadsK_all (p : Pr) : loadsK p p.blks.length = loadsP p := by unfold loadsK loadsP; rw [List.take_length]
theorem loadsL_succ (l : List In) (k : Nat) (h : k < l.length) : loadsL (l.take (k + 1)) = loadsL (l.take k) ++ (if (l.getD k default).op = 5 then [l.getD k default] else []) := by
 have e : l.getD k default = l[k] := by simp [List.getD, h]
 rw [e, List.take_succ_eq_append_getElem h]
 unfold loadsL
 rw [List.filter_append]
 congr 1
 by_cases h5 : l[k].op = 5
 ·simp [h5]
 ·simp [h5]
theorem loadsL_le (l : List In) : (loadsL l).length ≤ l.length := List.length_filter_le ..
theorem loads_le (l : List Bk) (n : Nat) (h : ∀ b ∈ l, b.ins.length ≤ n) : (l.flatMap fun b => loadsL b.ins).length ≤ l.length * n := by
 induction l with
 | nil => simp
 | cons a l ih =>
  have h1 := ih fun b hb => h b (List.mem_cons_of_mem _ hb)
  have h2 := h a (List.mem_cons_self ..)
  have h3 := loadsL_le a.ins
  rw [List.flatMap_cons, List.length_append, List.length_cons, Nat.succ_mul]
  omega
def rowsZ (k : Nat) : List Nat := List.replicate k 0
/-- the box of the procedure -/
def prB22 (nm : ByteArray) (p : Pr) (vo vb : Value) : Obj := .cells #[.string nm, .bool p.void, .int .i64 p.params, .int .i64 p.regs, vo, vb] 32
structure NfS (w : World) (nm : ByteArray) (p : Pr) (vo vb : Value) (bv : Nat) (vs vl vf vg : Value) (LL : List In) (F : List Int) (rs : List (Nat × Nat)) (X : List Nat) (L : Nat) (W : World) : Prop where
 fd : FdM w (w.heap.size + 1) nm p vo vb bv vs vl vf vg LL F rs X L W
 pr : W.heap[w.heap.size]? = some (prB22 nm p vo vb)
section
variable {w W W' : World} {bv L : Nat} {nm : ByteArray} {p : Pr} {vo vb vs vl vf vg v' : Value} {LL : List In} {F : List Int} {rs : List (Nat × Nat)} {X : List Nat}
theorem NfS.below (h : NfS w nm p vo vb bv vs vl vf vg LL F rs X L W) (hb : Below W.heap.size W W') : NfS w nm p vo vb bv vs vl vf vg LL F rs X L W' :=
 ⟨h.fd.below hb, (hb.block _ (Array.getElem?_eq_some_iff.1 h.pr).1).trans h.pr⟩
theorem NfS.keepPr (h : NfS w nm p vo vb bv vs vl vf vg LL F rs X L W) {row : Option Nat} (hg : W.grownBy W' row) (hr : ∀ b, row = some b → w.heap.size + 2 ≤ b) (j : Nat) (u : Value) : (W'.setCell ⟨w.heap.size + 1, j, none⟩ u).heap[w.heap.size]? = some (prB22 nm p vo vb) :=
 (Below.heap_setCell W' ⟨w.heap.size + 1, j, none⟩ u w.heap.size (by simp)).trans ((hg.block _ (Array.getElem?_eq_some_iff.1 h.pr).1 fun e => by have := hr _ e.symm; omega).trans h.pr)
theorem NfS.from (h : NfS w nm p vo vb bv vs vl vf vg LL F rs X L W) {x : Int} (hg : W.grownBy W' vf.ownBlock) (ho : W'.ownsRow (w.heap.size + 2) 3 1 v' (F.length + 1) (F.map (Value.int .i64) ++ [.int .i64 x])) : NfS w nm p vo vb bv vs vl v' vg LL (F ++ [x]) rs X L (W'.setCell ⟨w.heap.size + 1, 9, none⟩ v') :=
 ⟨h.fd.from hg ho, h.keepPr hg (fun b e => (own_lt h.fd.fr e).1) 9 v'⟩
theorem NfS.load (h : NfS w nm p vo vb bv vs vl vf vg LL F rs X L W) {K : List (In × Value)} (hK : InA w (w.heap.size + 2) W vl K) (hL : K.map Prod.fst = LL) {y : In × Value} (hy : RdI w y.2 y.1.args) (hg : W.grownBy W' vl.ownBlock) (ho : W'.ownsRow (w.heap.size + 2) 58 11 v' (K.length + 1) (K.flatMap inCells ++ inCells y)) : NfS w nm p vo vb bv vs v' vf vg (LL ++ [y.1]) F rs X L (W'.setCell ⟨w.heap.size + 1, 8, none⟩ v') :=
 ⟨h.fd.load hK hL hy hg ho, h.keepPr hg (fun b e => (own_lt hK.own e).1) 8 v'⟩
theorem NfS.row (h : NfS w nm p vo vb bv vs vl vf vg LL F rs X L W) {g c R : Nat} (hr : RowU W g c L R) (hgB : w.heap.size + 2 ≤ g) (hn : ∀ i, i < X.length → (rs.getD i (0, 0)).1 ≠ g) (hg : W.grownBy W' vg.ownBlock) (ho : W'.ownsRow (w.heap.size + 2) 87 1 v' (X.length + 1) (rs.map (rowVU L) ++ [rowVU L (g, c)])) : NfS w nm p vo vb bv vs vl vf v' LL F (rs ++ [(g, c)]) (X ++ [R]) L (W'.setCell ⟨w.heap.size + 1, 10, none⟩ v') :=
 ⟨h.fd.row hr hgB hn hg ho, h.keepPr hg (fun b e => (own_lt h.fd.tb.tab e).1) 10 v'⟩
end
theorem info_hrow : (Try.prog.info? 87).map (fun i => (i.zero, i.size, i.bytes)) = some (some (.slice none 0 0), 1, 24) := by kernel_rfl
theorem info_u64h : (Try.prog.info? 134).map (fun i => (i.zero, i.size, i.bytes)) = some (some (.int .u64 0), 1, 8) := by kernel_rfl
theorem run_hrow (X : Int) (N : Nat) (hX : X = (N : Int)) (hN : N ≤ 1000000) (w : World) : (Instr.makeSlice 87 (.int .i64 X) (.int .i64 X)).run Try.prog w = .ok (.slice (some ⟨w.heap.size, 0, none⟩) N N) (w.alloc (.cells (madeCells #[.int .u64 0] N) 134)) := by
 subst hX
 have hi := info_u64h
 cases hx : Try.prog.info? 134 with
 | none => rw [hx] at hi; cases hi
 | some i =>
  rw [hx] at hi
  simp only [Option.map_some, Option.some.injEq, Prod.mk.injEq] at hi
  obtain ⟨h1, h2, h3⟩ := hi
  have := run_make (P := Try.prog) w 87 134 i _ Try.underlying87 hx h1 .i64 .i64 (N : Int) (N : Int) (by omega) (by omega) (by rw [h3]; omega) (by omega)
  simp only [Int.toNat_natCast, h2, Nat.mul_one] at this
  exact this
theorem RowU.made (w : World) (n : Nat) (hn : n ≤ 1000000) : RowU (w.alloc (.cells (madeCells #[.int .u64 0] n) 134)) w.heap.size n n 0 := by
 unfold RowU
 refine ⟨by rw [wordsU_len]; omega, .inr ⟨w.heap.size, n, _, rfl, Nat.zero_le _, heap_alloc_new w _, Nat.le_refl _, by unfold maxLen; omega, by rw [size_madeCells]; omega, ?_⟩⟩
 have : (madeCells #[.int .u64 0] n).toList = wordsU n 0 := by
  apply List.ext_getElem?
  intro j
  by_cases hj : j < n
  ·rw [wordsU_at n 0 j hj, wU_zero]
   simp only [madeCells, Array.toList_map, List.getElem?_map, Array.toList_range, List.getElem?_range hj, Option.map_some]
   have hz : j % (#[Value.int .u64 0] : Array Value).size = 0 := by
    show j % 1 = 0; omega
   rw [hz]; rfl
  ·rw [List.getElem?_eq_none (by simp [size_madeCells]; omega), List.getElem?_eq_none (by rw [wordsU_len]; omega)]
 rw [this]
 exact List.take_of_length_le (by rw [wordsU_len]; omega)
theorem one11v (y : In) (a : Option Addr) (n c : Nat) : ∀ u ∈ inCells (y, Value.slice a n c), u.oneCell' = true := fun u hu => by
 simp only [inCells, List.mem_cons, List.not_mem_nil, or_false] at hu
 rcases hu with rfl | rfl | rfl | rfl | rfl | rfl | rfl | rfl | rfl | rfl | rfl <;> rfl
def NfQ (w : World) (nm : ByteArray) (p : Pr) (vo vb : Value) (bv : Nat) (vs : Value) (e : Ending) (w' : World) : Prop := ∃ bf vl vf vg rs, e = .returned (.pointer (some ⟨bf, 0, none⟩)) ∧ FdM w bf nm p vo vb bv vs vl vf vg (loadsP p) (fromsK p p.blks.length) rs (rowsZ p.blks.length) (lwN p) w'
theorem newf_c (nm : ByteArray) (p : Pr) (vo vb vs : Value) (bv : Nat) (s : List Bool) (w : World) (hP : PrV w (.agg #[.string nm, .bool p.void, .int .i64 p.params, .int .i64 p.regs, vo, vb]) p) (hs : RdB w vs s) (hbl : p.blks.length ≤ 1000) (hil : ∀ b ∈ p.blks, b.ins.length ≤ 1000) (hr : 0 ≤ p.regs ∧ p.regs ≤ 10000) :
  Calls Try.prog 34 #[.agg #[.string nm, .bool p.void, .int .i64 p.params, .int .i64 p.regs, vo, vb], .pointer (some ⟨bv, 0, none⟩), vs] w (NfQ w nm p vo vb bv vs) := by
 obtain ⟨nm', vo', vb', he, hvo, hvb⟩ := hP
 simp only [Value.agg.injEq, Array.mk.injEq, List.cons.injEq, Value.string.injEq, and_true, true_and] at he
 obtain ⟨rfl, rfl, rfl⟩ := he
 obtain ⟨ao, co, rfl, -⟩ := hvo
 have hvb' := hvb
 obtain ⟨ab, cb, rfl, b1, b2, -⟩ := hvb'
 unfold maxLen at b2
 obtain ⟨sa, sc, rfl, -⟩ := hs
 have HBK := Lib.hid (RdBks.at hvb).2
 have HIL := Lib.hid hil
 have HPL : Hid ((loadsP p).length ≤ 1000000) := by
  show _ ≤ _
  have := loads_le p.blks 1000 hil
  unfold loadsP
  have h2 : p.blks.length * 1000 ≤ 1000 * 1000 := Nat.mul_le_mul_right _ hbl
  omega
 clear hvb hil
 obtain ⟨LW, hLW⟩ : ∃ LW, LW = lwN p := ⟨_, rfl⟩
 obtain ⟨NL, hNL⟩ : ∃ NL, NL = (loadsP p).length := ⟨_, rfl⟩
 have HLV : Hid (LW = (NL + p.regs.toNat + 63) / 64) := by
  show _ = _
  rw [hLW, hNL]; rfl
 have HQ : Hid (∀ e w', NfQ w nm p (.slice ao p.objs.length co) (.slice ab p.blks.length cb) bv (.slice sa s.length sc) e w' = ∃ bf vl vf vg rs, e = .returned (.pointer (some ⟨bf, 0, none⟩)) ∧ FdM w bf nm p (.slice ao p.objs.length co) (.slice ab p.blks.length cb) bv (.slice sa s.length sc) vl vf vg (loadsP p) (fromsK p p.blks.length) rs (rowsZ p.blks.length) LW w') := fun e w' => by rw [hLW]; rfl
 have HNL := Lib.hid hNL
 rw [← hNL] at HPL
 clear hLW hNL
 obtain ⟨W0, hW0⟩ : ∃ W0, W0 = allocs w [prB22 nm p (.slice ao p.objs.length co) (.slice ab p.blks.length cb), fdO nm p (.slice ao p.objs.length co) (.slice ab p.blks.length cb) bv (.slice sa s.length sc) (.slice none 0 0) (.slice none 0 0) (.slice none 0 0)] := ⟨_, rfl⟩
 have S0 : Hid (NfS w nm p (.slice ao p.objs.length co) (.slice ab p.blks.length cb) bv (.slice sa s.length sc) (.slice none 0 0) (.slice none 0 0) (.slice none 0 0) (loadsK p 0) (fromsK p 0) [] (rowsZ 0) LW W0) := by
  have h0 := allocs_heap [prB22 nm p (.slice ao p.objs.length co) (.slice ab p.blks.length cb), fdO nm p (.slice ao p.objs.length co) (.slice ab p.blks.length cb) bv (.slice sa s.length sc) (.slice none 0 0) (.slice none 0 0) (.slice none 0 0)] w 0 (by simp)
  have h1 := allocs_heap [prB22 nm p (.slice ao p.objs.length co) (.slice ab p.blks.length cb), fdO nm p (.slice ao p.objs.length co) (.slice ab p.blks.length cb) bv (.slice sa s.length sc) (.slice none 0 0) (.slice none 0 0) (.slice none 0 0)] w 1 (by simp)
  have h2 := allocs_below [prB22 nm p (.slice ao p.objs.length co) (.slice ab p.blks.length cb), fdO nm p (.slice ao p.objs.length co) (.slice ab p.blks.length cb) bv (.slice sa s.length sc) (.slice none 0 0) (.slice none 0 0) (.slice none 0 0)] w
  rw [← hW0] at h0 h1 h2
  exact ⟨⟨h1, ⟨[], InA.nil _ _ _, rfl⟩, OwnI.nil _ _, TbV.nil _ _ _, h2, Nat.le_succ _⟩, h0⟩
 unfold allocs prB22 fdO at hW0
 simp only [List.foldl_cons, List.foldl_nil] at hW0
 have HW0 := Lib.hid hW0.symm
 clear hW0
 go_enter Try.func34, Try.ntmps34
 go_wp2_with fail
 rw [HW0.out]
 clear HW0
 go_loopw [20] (fun i wr => ∃ (k : Nat) (vl vf : Value), k ≤ p.blks.length ∧ i = .int .i64 (k : Int) ∧ Hid (NfS w nm p (.slice ao p.objs.length co) (.slice ab p.blks.length cb) bv (.slice sa s.length sc) vl vf (.slice none 0 0) (loadsK p k) (fromsK p k) [] (rowsZ 0) LW wr)) (fun i _ => p.blks.length - (intOf i).toNat)
 case atStart => exact ⟨0, _, _, Nat.zero_le _, rfl, S0⟩
 case round =>
  clear S0
  obtain ⟨k, vl, vf, hk, rfl, S⟩ := hrel
  obtain ⟨x0, x1, x2, x3, x4, x5, lx⟩ := cl6 S.out.pr
  by_cases hlt : k < p.blks.length
  ·have g1 : decide (k < p.blks.length) = true := decide_eq_true hlt
   have g2 : decide ((k : Int) < (p.blks.length : Int)) = true := decide_eq_true (by omega)
   obtain ⟨b, o, vi, hab, hvi, c0, c1, c2, c3, c4⟩ := HBK.out k hlt
   subst hab
   have hE := Ext.below S.out.fd.be
   replace c0 := hE _ _ c0
   replace c1 := hE _ _ c1
   replace c2 := hE _ _ c2
   replace c3 := hE _ _ c3
   replace c4 := hE _ _ c4
   have lb := World.block_lt_of_cell? wr _ c0
   have HVI := Lib.hid hvi
   obtain ⟨ai, ci, rfl, i1, i2, -⟩ := hvi
   unfold maxLen at i2
   obtain ⟨al, cl, rfl⟩ : ∃ al cl, vl = .slice al (fromP p k) cl := by
    obtain ⟨K, hK, hL⟩ := S.out.fd.lo
    obtain ⟨a, c, e⟩ := hK.form
    have : K.length = fromP p k := by rw [← loadsK_len p k, ← hL, List.length_map]
    exact ⟨a, c, by rw [e, this]⟩
   obtain ⟨af, cf, rfl⟩ := row_form S.out.fd.fr
   have HFS := Lib.hid (fromsK_succ p k)
   have HLS := Lib.hid (loadsK_succ p k hlt)
   have HIN := Lib.hid (HIL.out (p.blks.getD k default) (getD_in22 hlt))
   have hfl : fromP p k ≤ 1000000 := by
    have h1 := loads_le (p.blks.take k) 1000 (fun b hb => HIL.out b (List.mem_of_mem_take hb))
    have h2 : (p.blks.take k).length * 1000 ≤ 1000 * 1000 := Nat.mul_le_mul_right _ (by rw [List.length_take]; omega)
    unfold fromP; omega
   have hfl2 : (fromsK p k).length ≤ 1000 := by unfold fromsK; rw [List.length_map, List.length_range]; omega
   generalize p.blks.getD k default = K at *
   go_wp2_with fail
   obtain ⟨W5, hW5⟩ : ∃ W5, W5 = (wr.alloc (.cells #[.slice ai K.ins.length ci, .int .i64 K.fin, .int .i64 K.a, .int .i64 K.to, .int .i64 K.els] 51)).drew := ⟨_, rfl⟩
   have B5 : Hid (Below wr.heap.size wr W5) := by
    show Below _ _ _
    rw [hW5]; exact (below_alloc wr _).drew
   have H9 : Hid (W5.heap[wr.heap.size]? = some (.cells #[.slice ai K.ins.length ci, .int .i64 K.fin, .int .i64 K.a, .int .i64 K.to, .int .i64 K.els] 51)) := by
    show _ = _
    rw [hW5]; exact heap_alloc_new wr _
   refine wp_region_game (fun b => b = w.heap.size + 1) (by kernel_rfl) ?_
   show wpE _ _ _ _ _ _ _ (World.drew _)
   rw [← hW5]
   clear hW5 x0 x1 x2 x3 x4 x5 lx c0 c1 c2 c3 c4 lb hE
   have hfo : ∀ b, (Value.slice af (fromsK p k).length cf).ownBlock = some b → b < wr.heap.size := fun b e => (own_lt S.out.fd.fr e).2
   have S5 := Lib.hid (S.out.below B5.out)
   have hsz := S.out.fd.lt
   clear S
   obtain ⟨-, -, -, -, -, -, -, -, y8, y9, -, ly⟩ := cl11 S5.out.fd.box
   refine E_mob2s [0, 1, 2, 3, 4, 5, 6, 7, 8, 9] _ _ _ _ (by kernel_rfl) ?_
   simp only [List.map_cons, List.map_nil, List.getElem?_toArray, List.getElem?_cons_succ, List.getElem?_cons_zero, Option.getD_some, List.size_toArray, List.length_cons, List.length_nil, Nat.reduceAdd, Nat.reduceSub]
   repeat (go_big_quiet_step (fail))
   refine wpQuiet_nil ?_
   refine E_loud1 10 _ rfl (by kernel_rfl) ?_
   simp only [List.getElem_toArray, List.getElem_cons_succ, List.getElem_cons_zero]
   go_wp2_with fail
   refine ⟨keep_below (below_alloc W5 _) (fun b hb => by rw [hb]; exact ly), ?_⟩
   have S6 := Lib.hid (S5.out.below (below_alloc W5 (.cells #[.int .i64 ((fromP p k : Nat) : Int)] 3)))
   have H9 := Lib.hid (((below_alloc W5 (.cells #[.int .i64 ((fromP p k : Nat) : Int)] 3)).block _ (Array.getElem?_eq_some_iff.1 H9.out).1).trans H9.out)
   have hcx : (W5.alloc (.cells #[.int .i64 ((fromP p k : Nat) : Int)] 3)).cell? ⟨W5.heap.size, 0, none⟩ = some (.int .i64 ((fromP p k : Nat) : Int)) := cell_of_heap (heap_alloc_new W5 _) 0
   clear S5 y8 y9 ly
   obtain ⟨-, -, -, -, -, -, -, -, -, y9, -, ly⟩ := cl11 S6.out.fd.box
   have f9 := frozen_of_heap S6.out.fd.box 9
   generalize W5.alloc (.cells #[.int .i64 ((fromP p k : Nat) : Int)] 3) = W6 at *
   refine E_loud1 11 _ rfl (by kernel_rfl) ?_
   simp only [List.getElem_toArray, List.getElem_cons_succ, List.getElem_cons_zero]
   refine appI (n := ((fromP p k : Nat) : Int)) S6.out.fd.fr rfl rfl rfl rfl hcx (by omega) (by omega) ?_
   intro v3 w3 h3 hg3 ha3
   have qn : (Value.slice af (fromsK p k).length cf).ownBlock ≠ some (w.heap.size + 1) := own_ne_block S6.out.fd.fr (Nat.lt_succ_self _)
   refine ⟨fun b o hb => by subst hb; exact grown_cell hg3 ly qn, ?_⟩
   have S7 := Lib.hid (S6.out.from hg3 h3)
   have y9 := (grown_cell hg3 ly qn).trans y9
   have f9 := (grown_frozen hg3 ly qn).trans f9
   have H9 : Hid ((w3.setCell ⟨w.heap.size + 1, 9, none⟩ v3).heap[wr.heap.size]? = _) := (Below.heap_setCell _ _ _ _ (by simp only; omega)).trans ((hg3.block _ (Array.getElem?_eq_some_iff.1 H9.out).1 (fun e => by have := hfo _ e.symm; omega)).trans H9.out)
   have l3 : w.heap.size + 1 < w3.heap.size := Nat.lt_of_lt_of_le ly hg3.size
   obtain ⟨a3, c3, rfl⟩ := row_form h3
   clear h3 hg3 ha3 qn S6 hcx ly hfo B5
   simp only [Act.put, List.setIfInBounds_toArray, List.set_cons_succ, List.set_cons_zero]
   refine E_mob2s [12, 13] _ _ _ _ (by kernel_rfl) ?_
   simp only [List.map_cons, List.map_nil, List.getElem?_toArray, List.getElem?_cons_succ, List.getElem?_cons_zero, Option.getD_some, List.size_toArray, List.length_cons, List.length_nil, Nat.reduceAdd, Nat.reduceSub]
   repeat (go_big_quiet_step (fail))
   refine wpQuiet_nil ?_
   refine E_last 14 _ rfl (by kernel_rfl) ?_
   simp only [List.getElem_toArray, List.getElem_cons_succ, List.getElem_cons_zero]
   go_wp2_with fail
   refine E_done (by kernel_rfl) ?_ _
   rw [← HFS.out] at S7
   clear y9 f9
   generalize w3.setCell ⟨w.heap.size + 1, 9, none⟩ (.slice a3 ((fromsK p k).length + 1) c3) = W8 at *
   have z0 := cell_of_heap H9.out 0
   simp only [List.getElem?_toArray, List.getElem?_cons_zero] at z0
   have lz := World.block_lt_of_cell? W8 _ z0
   have S8 : Hid (NfS w nm p (.slice ao p.objs.length co) (.slice (some ⟨b, o, none⟩) p.blks.length cb) bv (.slice sa s.length sc) (.slice al (fromP p k) cl) (.slice a3 ((fromsK p k).length + 1) c3) (.slice none 0 0) (loadsK p k ++ loadsL (K.ins.take 0)) (fromsK p (k + 1)) [] (rowsZ 0) LW W8) := by
    show NfS _ _ _ _ _ _ _ _ _ _ _ _ _ _ _ _
    rw [List.take_zero, show loadsL [] = [] from rfl, List.append_nil]; exact S7.out
   clear S7 l3
   go_wp2_with fail
   clear z0 lz H9
   go_loopw [41] (fun j wr => ∃ (l : Nat) (vl : Value), l ≤ K.ins.length ∧ j = .int .i64 (l : Int) ∧ Hid (NfS w nm p (.slice ao p.objs.length co) (.slice (some ⟨b, o, none⟩) p.blks.length cb) bv (.slice sa s.length sc) vl (.slice a3 ((fromsK p k).length + 1) c3) (.slice none 0 0) (loadsK p k ++ loadsL (K.ins.take l)) (fromsK p (k + 1)) [] (rowsZ 0) LW wr)) (fun j _ => K.ins.length - (intOf j).toNat)
   case atStart => exact ⟨0, _, Nat.zero_le _, rfl, S8⟩
   case round =>
    clear S8
    obtain ⟨l, vl, hl, rfl, S⟩ := hrel
    by_cases hll : l < K.ins.length
    ·have q1 : decide (l < K.ins.length) = true := decide_eq_true hll
     have q2 : decide ((l : Int) < (K.ins.length : Int)) = true := decide_eq_true (by omega)
     obtain ⟨bi, oi, v9, hai, lbi, hva, d0, d1, d2, d3, d4, d5, d6, d7, d8, d9, d10⟩ := (RdIns.at HVI.out).2 l hll
     subst hai
     have hE := Ext.below S.out.fd.be
     replace d0 := hE _ _ d0
     replace d1 := hE _ _ d1
     replace d2 := hE _ _ d2
     replace d3 := hE _ _ d3
     replace d4 := hE _ _ d4
     replace d5 := hE _ _ d5
     replace d6 := hE _ _ d6
     replace d7 := hE _ _ d7
     replace d8 := hE _ _ d8
     replace d9 := hE _ _ d9
     replace d10 := hE _ _ d10
     replace lbi := Nat.lt_of_lt_of_le lbi S.out.fd.be.size
     have HVA := Lib.hid hva
     obtain ⟨va, vc, rfl, -⟩ := hva
     have HLL := Lib.hid (loadsL_succ K.ins l hll)
     have hfl3 : (loadsK p k ++ loadsL (K.ins.take l)).length ≤ 1001000 := by
      rw [List.length_append, loadsK_len]
      have h1 := loadsL_le (K.ins.take l)
      rw [List.length_take] at h1
      have := HIN.out
      omega
     generalize K.ins.getD l default = i at *
     cases h5 : (i.op == 5)
     ·have HLN : Hid (loadsL (K.ins.take (l + 1)) = loadsL (K.ins.take l)) := by
       show _ = _
       rw [HLL.out, if_neg (by simpa using h5), List.append_nil]
      go_wp2_with fail
      go_roundw
      case rel => exact ⟨l + 1, vl, hll, by go_num, by rw [HLN.out]; exact S.out.below (below_alloc _ _)⟩
      case measure => simp [intOf]; omega
     ·have HLN : Hid (loadsK p k ++ loadsL (K.ins.take (l + 1)) = (loadsK p k ++ loadsL (K.ins.take l)) ++ [i]) := by
       show _ = _
       rw [HLL.out, if_pos (by simpa using h5), List.append_assoc]
      obtain ⟨Kq, hK, hKL⟩ := S.out.fd.lo
      obtain ⟨al2, cl2, rfl⟩ := hK.form
      have hkl : Kq.length ≤ 1001000 := by rw [← hKL, List.length_map] at hfl3; exact hfl3
      clear hfl3
      go_wp2_with fail
      obtain ⟨W5, hW5⟩ : ∃ W5, W5 = (wr.alloc (.cells #[.int .i64 i.op, .int .i64 i.d, .int .i64 i.a, .int .i64 i.b, .int .i64 i.fn, .int .i64 i.obj, .int .i64 i.off, .int .i64 i.size, .int .u32 i.num, .slice va i.args.length vc, .bool i.log] 58)).drew := ⟨_, rfl⟩
      have B5 : Hid (Below wr.heap.size wr W5) := by
       show Below _ _ _
       rw [hW5]; exact (below_alloc wr _).drew
      have H9 : Hid (W5.heap[wr.heap.size]? = some (.cells #[.int .i64 i.op, .int .i64 i.d, .int .i64 i.a, .int .i64 i.b, .int .i64 i.fn, .int .i64 i.obj, .int .i64 i.off, .int .i64 i.size, .int .u32 i.num, .slice va i.args.length vc, .bool i.log] 58)) := by
       show _ = _
       rw [hW5]; exact heap_alloc_new wr _
      refine wp_region_game (fun b => b = w.heap.size + 1 ∨ b = wr.heap.size) (by kernel_rfl) ?_
      show wpE _ _ _ _ _ _ _ (World.drew _)
      rw [← hW5]
      clear hW5 d0 d1 d2 d3 d4 d5 d6 d7 d8 d9 d10 lbi hE
      have S5 := Lib.hid (S.out.below B5.out)
      have HK5 := Lib.hid (hK.below B5.out)
      have hko : ∀ b, (Value.slice al2 Kq.length cl2).ownBlock = some b → b < wr.heap.size := fun b e => (own_lt hK.own e).2
      have hsz := S.out.fd.lt
      clear S hK
      obtain ⟨-, -, -, -, -, -, -, -, y8, -, -, ly⟩ := cl11 S5.out.fd.box
      obtain ⟨d0, d1, d2, d3, d4, d5, d6, d7, d8, d9, d10, ld⟩ := cl11 H9.out
      refine E_mob2s [0, 1, 2, 3, 4, 5] _ _ _ _ (by kernel_rfl) ?_
      simp only [List.map_cons, List.map_nil, List.getElem?_toArray, List.getElem?_cons_succ, List.getElem?_cons_zero, Option.getD_some, List.size_toArray, List.length_cons, List.length_nil, Nat.reduceAdd, Nat.reduceSub]
      repeat (go_big_quiet_step (fail))
      refine wpQuiet_nil ?_
      refine E_loud1 6 _ rfl (by kernel_rfl) ?_
      simp only [List.getElem_toArray, List.getElem_cons_succ, List.getElem_cons_zero]
      go_wp2_with fail
      refine ⟨keep_below (below_alloc W5 _) (fun b hb => by rcases hb with rfl | rfl <;> omega), ?_⟩
      have S6 := Lib.hid (S5.out.below (below_alloc W5 (.cells #[.int .i64 i.op, .int .i64 i.d, .int .i64 i.a, .int .i64 i.b, .int .i64 i.fn, .int .i64 i.obj, .int .i64 i.off, .int .i64 i.size, .int .u32 i.num, .slice va i.args.length vc, .bool i.log] 58)))
      have HK6 := Lib.hid (HK5.out.below (below_alloc W5 (.cells #[.int .i64 i.op, .int .i64 i.d, .int .i64 i.a, .int .i64 i.b, .int .i64 i.fn, .int .i64 i.obj, .int .i64 i.off, .int .i64 i.size, .int .u32 i.num, .slice va i.args.length vc, .bool i.log] 58)))
      have H9 := Lib.hid (((below_alloc W5 (.cells #[.int .i64 i.op, .int .i64 i.d, .int .i64 i.a, .int .i64 i.b, .int .i64 i.fn, .int .i64 i.obj, .int .i64 i.off, .int .i64 i.size, .int .u32 i.num, .slice va i.args.length vc, .bool i.log] 58)).block _ ld).trans H9.out)
      have HCX : Hid (∀ jj u, (inCells (i, Value.slice va i.args.length vc))[jj]? = some u → (W5.alloc (.cells #[.int .i64 i.op, .int .i64 i.d, .int .i64 i.a, .int .i64 i.b, .int .i64 i.fn, .int .i64 i.obj, .int .i64 i.off, .int .i64 i.size, .int .u32 i.num, .slice va i.args.length vc, .bool i.log] 58)).cell? ⟨W5.heap.size, jj, none⟩ = some u) := cell_newX W5 (inCells (i, Value.slice va i.args.length vc)) 58 _ rfl
      clear S5 HK5 y8 ly d0 d1 d2 d3 d4 d5 d6 d7 d8 d9 d10 ld
      obtain ⟨-, -, -, -, -, -, -, -, y8, -, -, ly⟩ := cl11 S6.out.fd.box
      have f8 := frozen_of_heap S6.out.fd.box 8
      generalize W5.alloc (.cells #[.int .i64 i.op, .int .i64 i.d, .int .i64 i.a, .int .i64 i.b, .int .i64 i.fn, .int .i64 i.obj, .int .i64 i.off, .int .i64 i.size, .int .u32 i.num, .slice va i.args.length vc, .bool i.log] 58) = W6 at *
      refine E_loud1 7 _ rfl (by kernel_rfl) ?_
      simp only [List.getElem_toArray, List.getElem_cons_succ, List.getElem_cons_zero]
      refine appG 49 58 info_in Try.underlying49 rfl (by decide) (by decide) (inCells (i, Value.slice va i.args.length vc)) rfl (one11v i va i.args.length vc) HK6.out.own rfl rfl rfl rfl HCX.out (by omega) (by omega) ?_
      intro v3 w3 h3 hg3 ha3
      have qn : (Value.slice al2 Kq.length cl2).ownBlock ≠ some (w.heap.size + 1) := own_ne_block HK6.out.own (Nat.lt_succ_self _)
      have qm : (Value.slice al2 Kq.length cl2).ownBlock ≠ some wr.heap.size := fun e => by have := hko _ e; omega
      have lq : wr.heap.size < W6.heap.size := (Array.getElem?_eq_some_iff.1 H9.out).1
      refine ⟨fun b o hb => by rcases hb with rfl | rfl; exact grown_cell hg3 ly qn; exact grown_cell hg3 lq qm, ?_⟩
      have S7 := Lib.hid (S6.out.load HK6.out hKL HVA.out hg3 h3)
      have y8 := (grown_cell hg3 ly qn).trans y8
      have f8 := (grown_frozen hg3 ly qn).trans f8
      have l3 : w.heap.size + 1 < w3.heap.size := Nat.lt_of_lt_of_le ly hg3.size
      obtain ⟨a4, c4, rfl⟩ := row_form h3
      clear h3 hg3 ha3 qn qm S6 HK6 HCX ly hko B5
      simp only [Act.put, List.setIfInBounds_toArray, List.set_cons_succ, List.set_cons_zero]
      refine E_mob2s [8, 9] _ _ _ _ (by kernel_rfl) ?_
      simp only [List.map_cons, List.map_nil, List.getElem?_toArray, List.getElem?_cons_succ, List.getElem?_cons_zero, Option.getD_some, List.size_toArray, List.length_cons, List.length_nil, Nat.reduceAdd, Nat.reduceSub]
      repeat (go_big_quiet_step (fail))
      refine wpQuiet_nil ?_
      refine E_last 10 _ rfl (by kernel_rfl) ?_
      simp only [List.getElem_toArray, List.getElem_cons_succ, List.getElem_cons_zero]
      go_wp2_with fail
      refine E_done (by kernel_rfl) ?_ _
      rw [← HLN.out] at S7
      go_wp2_with fail
      go_roundw
      case rel => exact ⟨l + 1, _, hll, by go_num, S7⟩
      case measure => simp [intOf]; omega
    ·obtain rfl : l = K.ins.length := by omega
     rw [List.take_length, ← HLS.out] at S
     go_wp2_with fail
     go_roundw
     case rel => exact ⟨k + 1, vl, _, hlt, by go_num, S⟩
     case measure => simp [intOf]; omega
  ·obtain rfl : k = p.blks.length := by omega
   obtain ⟨al, cl, rfl⟩ : ∃ al cl, vl = .slice al NL cl := by
    obtain ⟨K, hK, hL⟩ := S.out.fd.lo
    obtain ⟨a, c, e⟩ := hK.form
    have : K.length = NL := by rw [HNL.out, ← loadsK_all p, ← hL, List.length_map]
    exact ⟨a, c, by rw [e, this]⟩
   rw [loadsK_all] at S
   have S8 : Hid (NfS w nm p (.slice ao p.objs.length co) (.slice ab p.blks.length cb) bv (.slice sa s.length sc) (.slice al NL cl) vf (.slice none 0 0) (loadsP p) (fromsK p p.blks.length) [] (rowsZ 0) LW wr) := S.out
   clear S
   go_wp2_with fail
   clear x0 x1 x2 x3 x4 x5 lx
   go_loopw [63] (fun i wr => ∃ (k : Nat) (vg : Value) (rs : List (Nat × Nat)), k ≤ p.blks.length ∧ i = .int .i64 (k : Int) ∧ Hid (NfS w nm p (.slice ao p.objs.length co) (.slice ab p.blks.length cb) bv (.slice sa s.length sc) (.slice al NL cl) vf vg (loadsP p) (fromsK p p.blks.length) rs (rowsZ k) LW wr)) (fun i _ => p.blks.length - (intOf i).toNat)
   case atStart => exact ⟨0, _, [], Nat.zero_le _, rfl, S8⟩
   case round =>
    clear S8
    obtain ⟨k, vg, rs, hk, rfl, S⟩ := hrel
    by_cases hlt : k < p.blks.length
    ·have q1 : decide (k < p.blks.length) = true := decide_eq_true hlt
     have q2 : decide ((k : Int) < (p.blks.length : Int)) = true := decide_eq_true (by omega)
     obtain ⟨x0, x1, x2, x3, x4, x5, lx⟩ := cl6 S.out.pr
     obtain ⟨R, hR⟩ := Int.eq_ofNat_of_zero_le hr.1
     rw [hR] at x3
     have hRb : R ≤ 10000 := by omega
     have HRR := Lib.hid hR
     have hpl := HPL.out
     clear hR hr
     have HLW : Hid (LW = (NL + R + 63) / 64) := by
      show _ = _
      rw [HLV.out, HRR.out]; simp
     go_wp2_with fail
     obtain ⟨W5, hW5⟩ : ∃ W5, W5 = wr.drew := ⟨_, rfl⟩
     have B5 : Hid (Below wr.heap.size wr W5) := by
      show Below _ _ _
      rw [hW5]; exact Below.drew (Below.refl _ _)
     refine wp_region_game (fun b => b = w.heap.size + 1 ∨ b = w.heap.size) (by kernel_rfl) ?_
     show wpE _ _ _ _ _ _ _ (World.drew _)
     rw [← hW5]
     clear hW5 x0 x1 x2 x4 x5
     have x3 := (B5.out.cell (p := ⟨w.heap.size, 3, none⟩) lx).trans x3
     have S5 := Lib.hid (S.out.below B5.out)
     have hsz := S.out.fd.lt
     obtain ⟨-, -, -, -, -, -, -, -, y8, -, y10, ly⟩ := cl11 S5.out.fd.box
     have hmk := fun W => run_hrow (((NL : Int) + (R : Int) + 64 - 1) / 64) LW (by rw [HLW.out]; omega) (by rw [HLW.out]; omega) W
     have hLb : LW ≤ 1000000 := by rw [HLW.out]; omega
     have hRX : (rowsZ k).length ≤ 1000 := by unfold rowsZ; rw [List.length_replicate]; omega
     have HRZ : Hid (rowsZ (k + 1) = rowsZ k ++ [0]) := by
      show _ = _
      unfold rowsZ; rw [List.replicate_succ']
     clear HLW
     refine E_mob2s [0, 1, 2, 3, 4, 5, 6, 7, 8, 9, 10, 11, 12, 13, 14, 15] _ _ _ _ (by kernel_rfl) ?_
     simp only [List.map_cons, List.map_nil, List.getElem?_toArray, List.getElem?_cons_succ, List.getElem?_cons_zero, Option.getD_some, List.size_toArray, List.length_cons, List.length_nil, Nat.reduceAdd, Nat.reduceSub]
     repeat (go_big_quiet_step (fail))
     refine wpQuiet_nil ?_
     refine E_loud1 16 _ rfl (by kernel_rfl) ?_
     simp only [List.getElem_toArray, List.getElem_cons_succ, List.getElem_cons_zero]
     go_wp2_with fail
     have B6 := below_alloc W5 (.cells (madeCells #[.int .u64 0] LW) 134)
     refine ⟨keep_below B6 (fun b hb => by rcases hb with rfl | rfl <;> omega), ?_⟩
     have S6 := Lib.hid (S5.out.below B6)
     have HRW := Lib.hid (RowU.made W5 LW hLb)
     have hrs : ∀ i, i < (rowsZ k).length → (rs.getD i (0, 0)).1 ≠ W5.heap.size := fun i hi e => by have := S5.out.fd.tb.old hi; omega
     have hgB : w.heap.size + 2 ≤ W5.heap.size := by omega
     clear S5 y8 y10 hmk S B5
     generalize hW6 : W5.alloc (.cells (madeCells #[.int .u64 0] LW) 134) = W6 at *
     clear hW6
     generalize W5.heap.size = g6 at *
     refine E_loud1 17 _ rfl (by kernel_rfl) ?_
     simp only [List.getElem_toArray, List.getElem_cons_succ, List.getElem_cons_zero]
     go_wp2_with fail
     have B7 := below_alloc W6 (.cells #[.slice (some ⟨g6, 0, none⟩) LW LW] 87)
     refine ⟨keep_below B7 (fun b hb => by have := S6.out.fd.lt; rcases hb with rfl | rfl <;> omega), ?_⟩
     have S7 := Lib.hid (S6.out.below B7)
     have HRW := Lib.hid (HRW.out.below B7)
     have HCX : Hid (∀ jj u, [rowVU LW (g6, LW)][jj]? = some u → (W6.alloc (.cells #[.slice (some ⟨g6, 0, none⟩) LW LW] 87)).cell? ⟨W6.heap.size, jj, none⟩ = some u) := cell_newX W6 [rowVU LW (g6, LW)] 87 _ rfl
     clear S6 B6 B7
     obtain ⟨-, -, -, -, -, -, -, -, -, -, y10, ly⟩ := cl11 S7.out.fd.box
     have f10 := frozen_of_heap S7.out.fd.box 10
     generalize W6.alloc (.cells #[.slice (some ⟨g6, 0, none⟩) LW LW] 87) = W7 at *
     refine E_loud1 18 _ rfl (by kernel_rfl) ?_
     simp only [List.getElem_toArray, List.getElem_cons_succ, List.getElem_cons_zero]
     refine appG 82 87 info_hrow Try.underlying82 rfl (by decide) (by decide) [rowVU LW (g6, LW)] rfl (fun u hu => by simp at hu; subst hu; rfl) S7.out.fd.tb.tab rfl rfl rfl rfl HCX.out (by omega) (by omega) ?_
     intro v3 w3 h3 hg3 ha3
     have qn : vg.ownBlock ≠ some (w.heap.size + 1) := own_ne_block S7.out.fd.tb.tab (Nat.lt_succ_self _)
     have qm : vg.ownBlock ≠ some w.heap.size := own_ne_block S7.out.fd.tb.tab (by omega)
     refine ⟨fun b o hb => by rcases hb with rfl | rfl; exact grown_cell hg3 ly qn; exact grown_cell hg3 (by omega) qm, ?_⟩
     have S8 := Lib.hid (S7.out.row HRW.out hgB hrs hg3 h3)
     have y10 := (grown_cell hg3 ly qn).trans y10
     have f10 := (grown_frozen hg3 ly qn).trans f10
     have l3 : w.heap.size + 1 < w3.heap.size := Nat.lt_of_lt_of_le ly hg3.size
     obtain ⟨a4, c4, rfl⟩ := row_form h3
     clear h3 hg3 ha3 qn qm S7 HRW HCX ly
     rw [← HRZ.out] at S8
     simp only [Act.put, List.setIfInBounds_toArray, List.set_cons_succ, List.set_cons_zero]
     refine E_mob2s [19, 20] _ _ _ _ (by kernel_rfl) ?_
     simp only [List.map_cons, List.map_nil, List.getElem?_toArray, List.getElem?_cons_succ, List.getElem?_cons_zero, Option.getD_some, List.size_toArray, List.length_cons, List.length_nil, Nat.reduceAdd, Nat.reduceSub]
     repeat (go_big_quiet_step (fail))
     refine wpQuiet_nil ?_
     refine E_last 21 _ rfl (by kernel_rfl) ?_
     simp only [List.getElem_toArray, List.getElem_cons_succ, List.getElem_cons_zero]
     go_wp2_with fail
     refine E_done (by kernel_rfl) ?_ _
     go_wp2_with fail
     go_roundw
     case rel => exact ⟨k + 1, _, _, hlt, by go_num, S8⟩
     case measure => simp [intOf]; omega
    ·obtain rfl : k = p.blks.length := by omega
     go_wp2_with fail
     go_ret
     rw [HQ.out]
     exact ⟨_, _, _, _, _, rfl, S.out.fd⟩
end Go.Proofs.Ytmcddolkpcgddaa
