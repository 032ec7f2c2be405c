/-
 inline.All: a module with all procedures turned that are not small. Plain.; The statements' With: a module with another procedure in the place of one.
-/
import Derived.Test.YtchoiankeohonaaGreatDoorZInlineAll44
import Derived.Test.YtchoiankeohonaaGreatDoorZInlineAll25
import Derived.Test.YtchoiankeohonaaGreatDoorZInlineAll34
import Derived.Test.YtchoiankeohonaaGreatDoorZInlineAll30
import Derived.Test.YtchoiankeohonaaGreatDoorZInlineAll18
import Derived.Test.YtchoiankeohonaaGreatDoorZInlineAll01
import Derived.Test.YtchoiankeohonaaGreatDoorZInlineAll07

set_option linter.all false
namespace Go.Proofs.YtchoiankeohonaaGreatDoor
set_option linter.unusedVariables false
set_option maxHeartbeats 1000000
def allQ (m : Md) (k : Nat) : Pr := if smallP (pk m k) = true then pk m k else inlP m (pk m k)
/-- the procedures behind so many rounds -/
def allL (m : Md) (j : Nat) : List Pr := (List.range m.procs.length).map fun k => if k < j then allQ m k else pk m k
def allM (m : Md) : Md := { m with procs := allL m m.procs.length }
theorem allL_len (m : Md) (j : Nat) : (allL m j).length = m.procs.length := by unfold allL; simp
theorem allL_get (m : Md) (j : Nat) {k : Nat} (hk : k < m.procs.length) : (allL m j).getD k default = if k < j then allQ m k else pk m k := by
 unfold allL; simp [List.getD, hk]
theorem allL_zero (m : Md) : allL m 0 = m.procs := by
 apply List.ext_getElem (by rw [allL_len])
 intro i h1 h2
 have := allL_get m 0 h2
 rw [if_neg (Nat.not_lt_zero _)] at this
 simp [List.getD, h1] at this
 rw [this]
 unfold pk
 simp [List.getD, h2]
theorem allL_small {m : Md} {j : Nat} (h : smallP (pk m j) = true) : allL m (j + 1) = allL m j := by
 unfold allL
 refine List.map_congr_left fun k hk => ?_
 by_cases e : k = j
 ·subst e
  rw [if_pos (Nat.lt_succ_self _), if_neg (Nat.lt_irrefl _)]
  unfold allQ
  rw [if_pos h]
 ·by_cases e2 : k < j
  ·rw [if_pos (by omega), if_pos e2]
  ·rw [if_neg (by omega), if_neg e2]
theorem allL_set {m : Md} {j : Nat} (hj : j < m.procs.length) (h : smallP (pk m j) = false) : allL m (j + 1) = (allL m j).set j (inlP m (pk m j)) := by
 apply List.ext_getElem (by rw [List.length_set, allL_len, allL_len])
 intro i h1 h2
 rw [List.getElem_set]
 have hi : i < m.procs.length := by rw [allL_len] at h1; exact h1
 have a1 := allL_get m (j + 1) hi
 have a2 := allL_get m j hi
 simp only [List.getD, List.getElem?_eq_getElem h1, Option.getD_some] at a1
 have h3 : i < (allL m j).length := by rw [allL_len]; exact hi
 simp only [List.getD, List.getElem?_eq_getElem h3, Option.getD_some] at a2
 rw [a1, a2]
 by_cases e : j = i
 ·subst e
  rw [if_pos rfl, if_pos (Nat.lt_succ_self _)]
  unfold allQ
  rw [if_neg (by rw [h]; decide)]
 ·rw [if_neg e]
  by_cases e2 : i < j
  ·rw [if_pos (by omega), if_pos e2]
  ·rw [if_neg (by omega), if_neg e2]
theorem pk_all {m : Md} {k : Nat} (hk : k < m.procs.length) : pk (allM m) k = allQ m k := by
 have := allL_get m m.procs.length hk
 rw [if_pos hk] at this
 exact this
/-- what is known of each procedure -/
structure AllI (m : Md) : Prop where
 inl : ∀ k, k < m.procs.length → InlI m (pk m k) (pk m k)
theorem AllI.of {m : Md} (hf : fewM m = true) (hok : okM m = true) (hmd : MdOk m) : AllI m := ⟨fun k hk => by
 have hm : pk m k ∈ m.procs := by unfold pk; simp [List.getD, hk]
 exact InlI.start (okM_proc hok hk) (hmd.procs _ hm) (few_size hf hm)⟩
section
variable {m : Md}
theorem AllI.q (h : AllI m) (hok : okM m = true) (hmd : MdOk m) {k : Nat} (hk : k < m.procs.length) : InlI m (pk m k) (allQ m k) := by
 unfold allQ
 split
 ·exact h.inl k hk
 ·exact inlP_ok hok hmd (h.inl k hk)
theorem allM_mem {q : Pr} (hq : q ∈ (allM m).procs) : ∃ k, k < m.procs.length ∧ q = allQ m k := by
 have hq : q ∈ allL m m.procs.length := hq
 unfold allL at hq
 obtain ⟨k, hk, rfl⟩ := List.mem_map.1 hq
 have hk := List.mem_range.1 hk
 exact ⟨k, hk, by rw [if_pos hk]⟩
theorem all_like (h : AllI m) (hok : okM m = true) (hmd : MdOk m) (k : Nat) : ((allM m).procs.getD k default).params = (m.procs.getD k default).params ∧ ((allM m).procs.getD k default).void = (m.procs.getD k default).void := by
 by_cases hk : k < m.procs.length
 ·have e : (allM m).procs.getD k default = allQ m k := pk_all hk
  rw [e]
  have := (h.q hok hmd hk).mt
  exact ⟨this.params, this.void⟩
 ·have e1 : (allM m).procs.getD k default = default := by
   have : (allM m).procs.length = m.procs.length := allL_len m _
   simp [List.getD, List.getElem?_eq_none (show (allM m).procs.length ≤ k by omega)]
  have e2 : m.procs.getD k default = default := by simp [List.getD, List.getElem?_eq_none (show m.procs.length ≤ k by omega)]
  rw [e1, e2]; exact ⟨rfl, rfl⟩
theorem okI_allM (h : AllI m) (hok : okM m = true) (hmd : MdOk m) (p : Pr) (i : In) : okI (allM m) p i = okI m p i := by
 have hl := all_like h hok hmd i.obj.toNat
 have hn : (allM m).procs.length = m.procs.length := allL_len m _
 unfold okI callF moreF
 rw [hl.1, hl.2, hn]
 rfl
theorem okP_allM (h : AllI m) (hok : okM m = true) (hmd : MdOk m) (p : Pr) : okP (allM m) p = okP m p := by
 unfold okP
 congr 1
 rw [Bool.eq_iff_iff, List.all_eq_true, List.all_eq_true]
 refine forall_congr' fun x => forall_congr' fun _ => ?_
 have : okB (allM m) p x = okB m p x := by
  unfold okB
  congr 1
  rw [Bool.eq_iff_iff, List.all_eq_true, List.all_eq_true]
  exact forall_congr' fun y => forall_congr' fun _ => by rw [okI_allM h hok hmd]
 rw [this]
theorem okM_all (h : AllI m) (hok : okM m = true) (hmd : MdOk m) : okM (allM m) = true := by
 have hok' := hok
 unfold okM at hok ⊢
 simp only [Bool.and_eq_true] at hok ⊢
 obtain ⟨h1, h2, h3, h4⟩ := hok
 have hn : (allM m).procs.length = m.procs.length := allL_len m _
 refine ⟨?_, h2, ?_, ?_⟩
 ·unfold okHeadM at h1 ⊢
  rw [hn]
  exact h1
 ·have := all_like h hok' hmd m.main.toNat
  show ((((allM m).procs.getD m.main.toNat default).params == 0) = true) ∧ (!((allM m).procs.getD m.main.toNat default).void) = true
  rw [this.1, this.2]; exact h3
 ·rw [List.all_eq_true]
  intro x hx
  obtain ⟨k, hk, rfl⟩ := allM_mem hx
  rw [okP_allM h hok' hmd]
  exact (h.q hok' hmd hk).ok
theorem mtM_all (h : AllI m) (hok : okM m = true) (hmd : MdOk m) : MtM m (allM m) := by
 refine ⟨rfl, rfl, rfl, fun k hk => ?_⟩
 rw [pk_all hk]
 exact (h.q hok hmd hk).mt
theorem all_same (h : AllI m) (hok : okM m = true) (hmd : MdOk m) {inp : List Int} (hiw : ∀ x ∈ inp, 0 ≤ x ∧ x < 4294967296) (he : (playM m inp 3000).e = 0) : SameO (playM m inp 3000) (playM (allM m) inp 60000) :=
 (mtM_all h hok hmd).play hok (okM_all h hok hmd) hmd hiw (by decide) he
theorem szM_all (h : AllI m) (hok : okM m = true) (hmd : MdOk m) : SzM (allM m) := ⟨fun q hq => by
 obtain ⟨k, hk, rfl⟩ := allM_mem hq
 exact (h.q hok hmd hk).szP⟩
theorem mdOk_all (h : AllI m) (hok : okM m = true) (hmd : MdOk m) : MdOk (allM m) := by
 refine { hmd with procs := fun q hq => ?_ }
 obtain ⟨k, hk, rfl⟩ := allM_mem hq
 exact (h.q hok hmd hk).pr
end
end Go.Proofs.YtchoiankeohonaaGreatDoor

set_option linter.all false
namespace Go.Proofs.YtchoiankeohonaaGreatDoor
open Go.ChangeShapes Go.WideShapes Go.ChangeAt Go.RowKit
set_option maxHeartbeats 4000000
set_option maxRecDepth 100000
set_option linter.unusedVariables false

theorem info_pr : (Tryz.prog.info? 35).map (fun i => (i.zero, i.size, i.bytes)) = some (some (.agg #[.string ⟨#[]⟩, .bool false, .int .i64 0, .int .i64 0, .slice none 0 0, .slice none 0 0]), 6, 88) := by kernel_rfl
theorem pr_ones (nm : ByteArray) (vd : Bool) (a b : Int) (v v' : Value) (hv : ∃ a n c, v = .slice a n c) (hv' : ∃ a n c, v' = .slice a n c) : ∀ u ∈ [Value.string nm, .bool vd, .int .i64 a, .int .i64 b, v, v'], u.oneCell' = true := fun u hu => by
 obtain ⟨x, y, z, rfl⟩ := hv
 obtain ⟨x', y', z', rfl⟩ := hv'
 simp only [List.mem_cons, List.not_mem_nil, or_false] at hu
 rcases hu with rfl | rfl | rfl | rfl | rfl | rfl <;> rfl
/-- a row of procedures of the call's own -/
structure PrD (w W0 wr : World) (v : Value) (L : List (Pr × ByteArray × Value × Value)) (l : List Pr) : Prop where
 own : wr.ownsRow (W0.heap.size + 1) 35 6 v L.length (L.flatMap prCells)
 good : ∀ x ∈ L, RdSls w x.2.2.1 x.1.objs ∧ RdBks w x.2.2.2 x.1.blks
 is : L.map Prod.fst = l
 below : Below W0.heap.size W0 wr
 le : Below w.heap.size w W0
 sz : W0.heap.size + 1 ≤ wr.heap.size
section
variable {w W0 wr w' : World} {v v' : Value} {L : List (Pr × ByteArray × Value × Value)} {l : List Pr}
theorem PrD.nil (h : Below w.heap.size w W0) (hb : Below W0.heap.size W0 wr) (hz : W0.heap.size + 1 ≤ wr.heap.size) : PrD w W0 wr (.slice none 0 0) [] [] := ⟨own_nil _ _ _ _, fun x hx => (by cases hx), rfl, hb, h, hz⟩
theorem PrD.grow (h : PrD w W0 wr v L l) (hb : Below wr.heap.size wr w') : PrD w W0 w' v L l :=
 ⟨own_below h.own hb, h.good, h.is, h.below.trans (hb.mono h.below.size), h.le, Nat.le_trans h.sz hb.size⟩
theorem PrD.set (h : PrD w W0 wr v L l) (j : Nat) (x : Value) : PrD w W0 (wr.setCell ⟨W0.heap.size, j, none⟩ x) v L l := by
 have hg : wr.grownBy (wr.setCell ⟨W0.heap.size, j, none⟩ x) (some W0.heap.size) := ⟨rfl, rfl, rfl, by simp, fun k _ hk => heap_setCell_other wr ⟨W0.heap.size, j, none⟩ k x (fun e => hk (by rw [e]))⟩
 refine ⟨World.ownsRow.kept h.own hg ?_, h.good, h.is, grown_belG h.below h.below.size hg (fun b e => by simp only [Option.some.injEq] at e; omega), h.le, Nat.le_trans h.sz hg.size⟩
 rcases e2 : v.ownBlock with _ | b
 ·exact .inl rfl
 ·refine .inr fun e => ?_
  have := (World.ownsRow.lt h.own b e2).1
  simp only [Option.some.injEq] at e
  omega
theorem PrD.len (h : PrD w W0 wr v L l) : L.length = l.length := by rw [← h.is]; simp
theorem PrD.sl (h : PrD w W0 wr v L l) {k : Nat} (hk : l.length = k) : ∃ a c, v = .slice a k c := by
 obtain ⟨a, c, e⟩ := row_form h.own
 exact ⟨a, c, by rw [e, h.len, hk]⟩
theorem PrD.app {x : Pr} {nm : ByteArray} {vo vb : Value} (h : PrD w W0 wr v L l) (ho : RdSls w vo x.objs) (hb : RdBks w vb x.blks)
  (hown : w'.ownsRow (W0.heap.size + 1) 35 6 v' (L.length + 1) (L.flatMap prCells ++ prCells (x, nm, vo, vb))) (hg : wr.grownBy w' v.ownBlock) : PrD w W0 w' v' (L ++ [(x, nm, vo, vb)]) (l ++ [x]) := by
 refine ⟨by simpa using hown, fun y hy => ?_, by rw [List.map_append, h.is]; rfl, h.below.grown hg h.below.size (fun k hk => by have := (own_lt h.own hk).1; omega), h.le, Nat.le_trans h.sz hg.size⟩
 rcases List.mem_append.1 hy with hy | hy
 ·exact h.good y hy
 ·simp only [List.mem_cons, List.not_mem_nil, or_false] at hy
  rw [hy]; exact ⟨ho, hb⟩
theorem PrD.rd (h : PrD w W0 wr v L l) (hE : Ext w w') (ho : w'.ownsRow (W0.heap.size + 1) 35 6 v L.length (L.flatMap prCells)) : RdPrs w' v l := by
 haveI : Inhabited (Pr × ByteArray × Value × Value) := ⟨(default, ⟨#[]⟩, vNil, vNil)⟩
 have H := own_flat (α := Pr × ByteArray × Value × Value) (f := prCells) (by decide : 0 < 6) (fun _ => rfl) ho
 have hl := h.len
 unfold RdPrs
 rw [← hl]
 obtain ⟨a, c, h1, h2, h3, h4⟩ := H
 refine ⟨a, c, h1, h2, h3, fun i hi => ?_⟩
 obtain ⟨b, o, e1, r⟩ := h4 i hi
 have eg : L.getD i default = L[i] := by simp [List.getD, hi]
 have eg2 : l.getD i default = L[i].1 := by rw [← h.is]; simp [List.getD, hi]
 rw [eg] at r
 have := h.good _ (List.getElem_mem hi)
 refine ⟨b, o, e1, ?_⟩
 dsimp only
 rw [eg2]
 exact ⟨⟨_, r 0 _ rfl⟩, r 1 _ rfl, r 2 _ rfl, r 3 _ rfl, ⟨_, r 4 _ rfl, this.1.ext hE⟩, ⟨_, r 5 _ rfl, this.2.ext hE⟩⟩
end
def withLn (m : Md) (n : Nat) (q : Pr) (k : Nat) : List Pr := (withM m n q).procs.take k
theorem withLn_len (m : Md) (n : Nat) (q : Pr) {k : Nat} (h : k ≤ m.procs.length) : (withLn m n q k).length = k := by unfold withLn; rw [List.length_take, withM_len]; omega
theorem withL_yes (m : Md) (n : Nat) (q : Pr) (h : n < m.procs.length) : withLn m n q (n + 1) = withLn m n q n ++ [q] := by
 unfold withLn
 rw [take_snocD _ _ (by rw [withM_len]; exact h)]
 have : (withM m n q).procs.getD n default = q := pk_with m n q h
 rw [this]
theorem withL_no (m : Md) (n : Nat) (q : Pr) {k : Nat} (h : k < m.procs.length) (hk : k ≠ n) : withLn m n q (k + 1) = withLn m n q k ++ [m.procs.getD k default] := by
 unfold withLn
 rw [take_snocD _ _ (by rw [withM_len]; exact h)]
 have : (withM m n q).procs.getD k default = m.procs.getD k default := pk_other m n q hk
 rw [this]
theorem withL_all (m : Md) (n : Nat) (q : Pr) : withLn m n q m.procs.length = (withM m n q).procs := by unfold withLn; rw [← withM_len m n q, List.take_length]
theorem keep_bel4 {S : Nat → Prop} {w w' : World} (h : Below w.heap.size w w') (hS : ∀ b, S b → b < w.heap.size) : Keep S w w' := fun b o hb => World.cell?_of_block (w := w) (a := ⟨b, o, none⟩) (h.block b (hS b hb))
theorem withm_c (m : Md) (q : Pr) (n : Nat) (vm vq : Value) (w : World) (hm : MdV w vm m) (hq : PrV w vq q) (hn : n < m.procs.length) (hpl : m.procs.length ≤ 1000) :
  Calls Tryz.prog 15 #[vm, .int .i64 (n : Int), vq] w fun e w' => (∃ v', e = .returned v' ∧ MdV w' v' (withM m n q)) ∧ Below w.heap.size w w' := by
 obtain ⟨vg, vd, vp, rfl, hvg, hvd, hvp⟩ := hm
 obtain ⟨qn, qo, qb, rfl, hqo, hqb⟩ := hq
 obtain ⟨ap, cp, rfl, hp1, hp2, -⟩ := id hvp
 obtain ⟨qao, qco, rfl, -⟩ := id hqo
 obtain ⟨qab, qcb, rfl, -⟩ := id hqb
 have HPS := Lib.hid (RdPrs.at6 hvp).2
 have HG := Lib.hid hvg
 have HD := Lib.hid hvd
 have HQO := Lib.hid hqo
 have HQB := Lib.hid hqb
 obtain ⟨ag, cg, rfl, -⟩ := hvg
 obtain ⟨ad, cd, rfl, -⟩ := hvd
 clear hvp hqo hqb hp1
 unfold maxLen at hp2
 obtain ⟨W0, hW0⟩ : ∃ W0, W0 = allocs w [.cells #[.slice ag m.globs.length cg, .slice ad m.data.length cd, .slice ap m.procs.length cp, .int .i64 m.main] 26, .cells #[.string qn, .bool q.void, .int .i64 q.params, .int .i64 q.regs, .slice qao q.objs.length qco, .slice qab q.blks.length qcb] 35, .cells #[.slice none 0 0, .slice none 0 0, .slice none 0 0, .int .i64 0] 26] := ⟨_, rfl⟩
 have B0 : Hid (Below w.heap.size w W0) := by rw [hW0]; exact allocs_below _ _
 have H0 : Hid (W0.heap[w.heap.size]? = some (.cells #[.slice ag m.globs.length cg, .slice ad m.data.length cd, .slice ap m.procs.length cp, .int .i64 m.main] 26 (0, 0))) := by rw [hW0]; exact allocs_heap _ w 0 (by simp)
 have H1 : Hid (W0.heap[w.heap.size + 1]? = some (.cells #[.string qn, .bool q.void, .int .i64 q.params, .int .i64 q.regs, .slice qao q.objs.length qco, .slice qab q.blks.length qcb] 35 (0, 0))) := by rw [hW0]; exact allocs_heap _ w 1 (by simp)
 have H2 : Hid (W0.heap[w.heap.size + 2]? = some (.cells #[.slice none 0 0, .slice none 0 0, .slice none 0 0, .int .i64 0] 26 (0, 0))) := by rw [hW0]; exact allocs_heap _ w 2 (by simp)
 have l0w : w.heap.size < W0.heap.size := (Array.getElem?_eq_some_iff.1 H0.out).1
 have l1w : w.heap.size + 1 < W0.heap.size := (Array.getElem?_eq_some_iff.1 H1.out).1
 have l2w : w.heap.size + 2 < W0.heap.size := (Array.getElem?_eq_some_iff.1 H2.out).1
 have hz0 : W0.heap.size = w.heap.size + 1 + 1 + 1 := by rw [hW0, allocs_size]; simp
 unfold allocs at hW0
 simp only [List.foldl_cons, List.foldl_nil] at hW0
 go_enter Tryz.func15, Tryz.ntmps15
 go_wp2_with fail
 rw [show w.heap.size + 1 + 1 + 1 = W0.heap.size from hz0.symm, ← hW0]
 clear hW0 hz0
 obtain ⟨W1, hW1⟩ : ∃ W1, W1 = W0.alloc (.cells #[.slice ag m.globs.length cg, .slice ad m.data.length cd, .slice none 0 0, .int .i64 m.main] 26) := ⟨_, rfl⟩
 have G1 : Hid (W1.heap[W0.heap.size]? = some (.cells #[.slice ag m.globs.length cg, .slice ad m.data.length cd, .slice none 0 0, .int .i64 m.main] 26)) := by
  rw [hW1]; exact heap_alloc_new W0 _
 have B1 : Below W0.heap.size W0 W1 := by
  rw [hW1]; exact below_alloc W0 _
 have D0 : Hid (PrD w W0 W1 (.slice none 0 0) [] (withLn m n q 0)) := PrD.nil B0.out B1 (Array.getElem?_eq_some_iff.1 G1.out).1
 try rw [← hW1]
 clear hW1 B1
 go_loopw [8] (fun i wr => ∃ (k : Nat) (L : List (Pr × ByteArray × Value × Value)) (vz : Value), i = .int .i64 (k : Int) ∧ k ≤ m.procs.length ∧ Hid (PrD w W0 wr vz L (withLn m n q k)) ∧ Hid (wr.heap[W0.heap.size]? = some (.cells #[.slice ag m.globs.length cg, .slice ad m.data.length cd, vz, .int .i64 m.main] 26))) (fun i _ => m.procs.length - (intOf i).toNat)
 case atStart => exact ⟨0, [], _, rfl, Nat.zero_le _, D0, G1⟩
 case round =>
  clear D0 G1
  obtain ⟨k, L, vz, rfl, hk, D, G⟩ := hrel
  obtain ⟨az, cz, rfl⟩ := D.out.sl (withLn_len m n q hk)
  have H0r := Lib.hid ((D.out.below.block _ l0w).trans H0.out)
  have H1r := Lib.hid ((D.out.below.block _ l1w).trans H1.out)
  obtain ⟨y0, y1, y2, y3, l0⟩ := cl4 H0r.out
  by_cases hlt : k < m.procs.length
  ·have g1 : decide ((k : Int) < (m.procs.length : Int)) = true := decide_eq_true (by omega)
   have g2 : decide (k < m.procs.length) = true := decide_eq_true hlt
   obtain ⟨x0, x1, x2, x3, x4, x5, l1⟩ := cl6 H1r.out
   obtain ⟨z0, z1, z2, z3, lz⟩ := cl4 G.out
   by_cases hkn : k = n
   ·subst hkn
    have HDS := Lib.hid (withL_yes m k q hlt)
    have hone := Lib.hid (pr_ones qn q.void q.params q.regs (.slice qao q.objs.length qco) (.slice qab q.blks.length qcb) ⟨_, _, _, rfl⟩ ⟨_, _, _, rfl⟩)
    have DW2 := Lib.hid (D.out.grow (below_alloc wr (.cells #[.string qn, .bool q.void, .int .i64 q.params, .int .i64 q.regs, .slice qao q.objs.length qco, .slice qab q.blks.length qcb] 35)))
    have GW2 := Lib.hid (((below_alloc wr (.cells #[.string qn, .bool q.void, .int .i64 q.params, .int .i64 q.regs, .slice qao q.objs.length qco, .slice qab q.blks.length qcb] 35)).block _ lz).trans G.out)
    have lz2 : W0.heap.size < (wr.alloc (.cells #[.string qn, .bool q.void, .int .i64 q.params, .int .i64 q.regs, .slice qao q.objs.length qco, .slice qab q.blks.length qcb] 35)).heap.size := (Array.getElem?_eq_some_iff.1 GW2.out).1
    have HLk : Hid (L.length = k) := by show _ = _; rw [D.out.len, withLn_len _ _ _ hk]
    have hLk0 : L.length ≤ 1000000000 := by rw [HLk.out]; omega
    have HSZ := Lib.hid DW2.out.sz
    go_wp2_with (at_builtin; refine appG 24 35 info_pr Tryz.underlying24 rfl (by decide) (by decide) [.string qn, .bool q.void, .int .i64 q.params, .int .i64 q.regs, .slice qao q.objs.length qco, .slice qab q.blks.length qcb] rfl hone.out DW2.out.own rfl rfl rfl rfl (cell_newX _ _ _ _ (by simp)) hLk0 HSZ.out ?_; intro v6 w6 O6 G6 D6; obtain ⟨a6, c6, rfl⟩ := row_form O6; have D7 := Lib.hid (DW2.out.app (x := q) (nm := qn) HQO.out HQB.out O6 G6); have GW3 := Lib.hid ((G6.block W0.heap.size lz2 (fun e => by have := (World.ownsRow.lt DW2.out.own _ e.symm).1; omega)).trans GW2.out); clear z0 z1 z2 z3 lz O6 G6 D6; obtain ⟨z0, z1, z2, z3, lz⟩ := cl4 GW3.out; have zf := frozen_of_heap GW3.out 2)
    have D8 := Lib.hid (D7.out.set 2 (.slice a6 (L.length + 1) c6))
    have G8 : Hid ((w6.setCell ⟨W0.heap.size, 2, none⟩ (.slice a6 (L.length + 1) c6)).heap[W0.heap.size]? = some (.cells #[.slice ag m.globs.length cg, .slice ad m.data.length cd, .slice a6 (L.length + 1) c6, .int .i64 m.main] 26)) := heap_setCell_same _ _ 2 _ _ _ GW3.out
    go_roundw
    case rel => exact ⟨k + 1, L ++ [(q, qn, .slice qao q.objs.length qco, .slice qab q.blks.length qcb)], _, by go_num, hlt, by rw [HDS.out]; exact D8, G8⟩
    case measure => simp [intOf]; omega
   ·have HDS := Lib.hid (withL_no m n q hlt hkn)
    have g3 : ((k : Int) == (n : Int)) = false := by rw [beq_eq_false_iff_ne]; omega
    obtain ⟨b, o, nm, vo, vb, rfl, ho, hb, c0, c1, c2, c3, c4, c5⟩ := HPS.out k hlt
    have hE : Ext w wr := (Ext.below D.out.le).trans (Ext.below D.out.below)
    have lbw := World.block_lt_of_cell? w _ c0
    replace c0 := hE _ _ c0
    replace c1 := hE _ _ c1
    replace c2 := hE _ _ c2
    replace c3 := hE _ _ c3
    replace c4 := hE _ _ c4
    replace c5 := hE _ _ c5
    have HPO := Lib.hid ho
    have HPB := Lib.hid hb
    obtain ⟨pao, pco, rfl, -⟩ := ho
    obtain ⟨pab, pcb, rfl, -⟩ := hb
    have lww := D.out.le.size
    clear hE
    generalize m.procs.getD k default = P at *
    go_wp2_with fail
    refine wp_region_game (fun x => x = w.heap.size ∨ x = W0.heap.size ∨ x = b) (by kernel_rfl) ?_
    refine E_mob2s [0, 1, 2, 3, 4, 5, 6] _ _ _ _ (by kernel_rfl) ?_
    simp only [List.map_cons, List.map_nil, List.getElem?_toArray, List.getElem?_cons_succ, List.getElem?_cons_zero, Option.getD_some, List.size_toArray, List.length_cons, List.length_nil, Nat.reduceAdd, Nat.reduceSub]
    repeat (go_big_quiet_step (fail))
    refine wpQuiet_nil ?_
    obtain ⟨W6, hW6⟩ : ∃ W6 : World, W6 = ⟨wr.heap, wr.tape, wr.drawn + 1, wr.os, wr.output⟩ := ⟨_, rfl⟩
    have BD : Below wr.heap.size wr W6 := by rw [hW6]; exact ⟨rfl, rfl, rfl, Nat.le_refl _, fun _ _ => rfl⟩
    have hs6 : W6.heap.size = wr.heap.size := by rw [hW6]
    have D := Lib.hid (D.out.grow BD)
    have G := Lib.hid ((BD.block _ lz).trans G.out)
    have hbz : b < W6.heap.size := by have := D.out.below.size; omega
    have hwz : w.heap.size < W6.heap.size := by omega
    have hxz : W0.heap.size < W6.heap.size := by omega
    rw [← hW6]
    clear hW6 BD z0 z1 z2 z3 lz y0 y1 y2 y3 l0 x0 x1 x2 x3 x4 x5 l1 c0 c1 c2 c3 c4 c5
    have lz := hxz
    have hone := Lib.hid (pr_ones nm P.void P.params P.regs (.slice pao P.objs.length pco) (.slice pab P.blks.length pcb) ⟨_, _, _, rfl⟩ ⟨_, _, _, rfl⟩)
    have DW2 := Lib.hid (D.out.grow (below_alloc W6 (.cells #[.string nm, .bool P.void, .int .i64 P.params, .int .i64 P.regs, .slice pao P.objs.length pco, .slice pab P.blks.length pcb] 35)))
    have GW2 := Lib.hid (((below_alloc W6 (.cells #[.string nm, .bool P.void, .int .i64 P.params, .int .i64 P.regs, .slice pao P.objs.length pco, .slice pab P.blks.length pcb] 35)).block _ lz).trans G.out)
    have lz2 : W0.heap.size < (W6.alloc (.cells #[.string nm, .bool P.void, .int .i64 P.params, .int .i64 P.regs, .slice pao P.objs.length pco, .slice pab P.blks.length pcb] 35)).heap.size := (Array.getElem?_eq_some_iff.1 GW2.out).1
    have HLk : Hid (L.length = k) := by show _ = _; rw [D.out.len, withLn_len _ _ _ hk]
    have hLk0 : L.length ≤ 1000000000 := by rw [HLk.out]; omega
    have HSZ := Lib.hid DW2.out.sz
    refine E_loud1 7 _ rfl (by kernel_rfl) ?_
    simp only [List.getElem_toArray, List.getElem_cons_succ, List.getElem_cons_zero]
    go_wp2_with fail
    refine ⟨keep_bel4 (below_alloc _ _) (fun x hx => by rcases hx with rfl | rfl | rfl <;> omega), ?_⟩
    refine E_loud1 8 _ rfl (by kernel_rfl) ?_
    simp only [List.getElem_toArray, List.getElem_cons_succ, List.getElem_cons_zero]
    generalize hWA : W6.alloc (.cells #[.string nm, .bool P.void, .int .i64 P.params, .int .i64 P.regs, .slice pao P.objs.length pco, .slice pab P.blks.length pcb] 35) = WA at *
    have hcn := cell_newX W6 [.string nm, .bool P.void, .int .i64 P.params, .int .i64 P.regs, .slice pao P.objs.length pco, .slice pab P.blks.length pcb] 35 W6.heap.size rfl
    have hWA2 : W6.alloc (.cells [.string nm, .bool P.void, .int .i64 P.params, .int .i64 P.regs, .slice pao P.objs.length pco, .slice pab P.blks.length pcb].toArray 35) = WA := hWA
    rw [hWA2, hs6] at hcn
    have hsA : W6.heap.size ≤ WA.heap.size := by rw [← hWA]; simp
    clear hWA hWA2
    refine appG 24 35 info_pr Tryz.underlying24 rfl (by decide) (by decide) [.string nm, .bool P.void, .int .i64 P.params, .int .i64 P.regs, .slice pao P.objs.length pco, .slice pab P.blks.length pcb] rfl hone.out DW2.out.own rfl rfl rfl rfl hcn hLk0 HSZ.out ?_
    intro v7 w7 O7 G7 D7
    obtain ⟨a7, c7, rfl⟩ := row_form O7
    have hno : ∀ x, x ≤ W0.heap.size → some x ≠ (Value.slice az k cz).ownBlock := fun x hx e => by have := (World.ownsRow.lt DW2.out.own x e.symm).1; omega
    refine ⟨fun x o hx => grown_cell G7 (by rcases hx with rfl | rfl | rfl <;> omega) (fun e => hno x (by rcases hx with rfl | rfl | rfl <;> omega) e.symm), ?_⟩
    have D9 := Lib.hid (DW2.out.app (x := P) (nm := nm) HPO.out HPB.out O7 G7)
    have GW3 := Lib.hid ((G7.block W0.heap.size lz2 (hno _ (Nat.le_refl _))).trans GW2.out)
    have lz3 := (Array.getElem?_eq_some_iff.1 GW3.out).1
    clear O7 G7 D7 hcn
    have z2 := cell_of_heap GW3.out 2
    have zf := frozen_of_heap GW3.out 2
    simp only [List.getElem?_toArray, List.getElem?_cons_zero, List.getElem?_cons_succ] at z2
    simp only [Act.put, List.setIfInBounds_toArray, List.set_cons_succ, List.set_cons_zero]
    refine E_mob2s [9] _ _ _ _ (by kernel_rfl) ?_
    simp only [List.map_cons, List.map_nil, List.getElem?_toArray, List.getElem?_cons_succ, List.getElem?_cons_zero, Option.getD_some, List.size_toArray, List.length_cons, List.length_nil, Nat.reduceAdd, Nat.reduceSub]
    repeat (go_big_quiet_step (fail))
    refine wpQuiet_nil ?_
    refine E_last 10 _ rfl (by kernel_rfl) ?_
    simp only [List.getElem_toArray, List.getElem_cons_succ, List.getElem_cons_zero]
    go_wp2_with fail
    refine E_done (by kernel_rfl) ?_ _
    go_wp2_with fail
    have D8 := Lib.hid (D9.out.set 2 (.slice a7 (L.length + 1) c7))
    have G8 : Hid ((w7.setCell ⟨W0.heap.size, 2, none⟩ (.slice a7 (L.length + 1) c7)).heap[W0.heap.size]? = some (.cells #[.slice ag m.globs.length cg, .slice ad m.data.length cd, .slice a7 (L.length + 1) c7, .int .i64 m.main] 26)) := heap_setCell_same _ _ 2 _ _ _ GW3.out
    go_roundw
    case rel => exact ⟨k + 1, L ++ [(P, nm, .slice pao P.objs.length pco, .slice pab P.blks.length pcb)], _, by go_num, hlt, by rw [HDS.out]; exact D8, G8⟩
    case measure => simp [intOf]; omega
  ·obtain rfl : k = m.procs.length := by omega
   have H2r := Lib.hid ((D.out.below.block _ l2w).trans H2.out)
   obtain ⟨x0, x1, x2, x3, l1⟩ := cl4 H2r.out
   obtain ⟨z0, z1, z2, z3, lz⟩ := cl4 G.out
   have zf := frozen_of_heap H2r.out
   have zf0 := zf 0
   have zf1 := zf 1
   have zf2 := zf 2
   have zf3 := zf 3
   clear zf
   go_wp2_with fail
   obtain ⟨W8, hW8⟩ : ∃ W8, W8 = (((wr.setCell ⟨w.heap.size + 2, 0, none⟩ (.slice ag m.globs.length cg)).setCell ⟨w.heap.size + 2, 1, none⟩ (.slice ad m.data.length cd)).setCell ⟨w.heap.size + 2, 2, none⟩ (.slice az m.procs.length cz)).setCell ⟨w.heap.size + 2, 3, none⟩ (.int .i64 m.main) := ⟨_, rfl⟩
   try rw [← hW8]
   have K8 : But (w.heap.size + 2) wr W8 := by
    rw [hW8]
    exact (((But.setCell _ _ wr _).trans (But.setCell _ _ _ _)).trans (But.setCell _ _ _ _)).trans (But.setCell _ _ _ _)
   have g8 : W8.heap[w.heap.size + 2]? = some (.cells #[.slice ag m.globs.length cg, .slice ad m.data.length cd, .slice az m.procs.length cz, .int .i64 m.main] 26) := by
    rw [hW8]
    exact heap_setCell_same _ _ 3 _ _ _ (heap_setCell_same _ _ 2 _ _ _ (heap_setCell_same _ _ 1 _ _ _ (heap_setCell_same wr _ 0 _ _ _ H2r.out)))
   clear hW8 z0 z1 z2 z3 lz x0 x1 x2 x3 l1 zf0 zf1 zf2 zf3 y0 y1 y2 y3
   obtain ⟨x0, x1, x2, x3, -⟩ := cl4 g8
   have B8 := (D.out.le.trans (D.out.below.mono D.out.le.size)).trans (K8.toBelow (B := w.heap.size) (by omega) (by omega))
   have hE := Ext.below B8
   have hrd : RdPrs W8 (.slice az m.procs.length cz) (withM m n q).procs := by
    rw [← withL_all]
    exact D.out.rd hE (World.ownsRow.kept D.out.own ⟨K8.os, K8.tape, K8.output, K8.size, fun x hx hne => K8.block x hx (fun e => hne (by rw [e]))⟩ (by
     rcases e2 : (Value.slice az m.procs.length cz).ownBlock with _ | x
     ·exact .inl rfl
     ·refine .inr fun e => ?_
      have := (World.ownsRow.lt D.out.own x e2).1
      simp only [Option.some.injEq] at e
      omega))
   refine bodyPost_ret (v := .agg #[.slice ag m.globs.length cg, .slice ad m.data.length cd, .slice az m.procs.length cz, .int .i64 m.main]) (by simp [results, Tryz.results15, go_sem, x0, x1, x2, x3]) rfl ?_
   exact ⟨⟨_, rfl, _, _, _, rfl, HG.out.ext hE, HD.out.ext hE, hrd⟩, B8⟩
end Go.Proofs.YtchoiankeohonaaGreatDoor
