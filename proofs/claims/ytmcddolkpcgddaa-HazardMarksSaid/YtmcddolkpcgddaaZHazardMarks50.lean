/-
 A mark more changes nothing of what is asked of a procedure, and nothing of which accesses meet.; HazardWrites: the walk.; The statements' With: a module with another procedure in the place of one.
-/
import Derived.Test.YtmcddolkpcgddaaZHazardMarks49
import Derived.Test.YtmcddolkpcgddaaZHazardMarks26
import Derived.Test.YtmcddolkpcgddaaZHazardMarks47
import Derived.Test.YtmcddolkpcgddaaZHazardMarks13
import Derived.Test.YtmcddolkpcgddaaZHazardMarks14
import Derived.Test.YtmcddolkpcgddaaZHazardMarks28
import Derived.Test.YtmcddolkpcgddaaZHazardMarks06
import Derived.Test.YtmcddolkpcgddaaZHazardMarks21
import Derived.Test.YtmcddolkpcgddaaZHazardMarks08

set_option linter.all false
namespace Go.Proofs.Ytmcddolkpcgddaa
open Go.ChangeShapes Go.WideShapes Go.ChangeAt Go.RowKit
set_option maxHeartbeats 4000000
set_option maxRecDepth 100000
set_option linter.unusedVariables false
theorem okP_yes22 {m : Md} {p : Pr} (h : Head p) (hn : insN p ≤ 20000) (hb : p.blks.all (okB m p) = true) : okP m p = true := by
 unfold okP okHead
 simp only [Bool.and_eq_true, decide_eq_true_eq]
 exact ⟨⟨h.p0, h.p6, h.pr, h.r8, h.ol, h.b1, h.b4, h.sl, hn⟩, hb⟩
theorem flatMap_set22 {α β : Type} [Inhabited α] (f : α → List β) : ∀ (l : List α) (b : Nat) (y : α), b < l.length → f y = f (l.getD b default) → (l.set b y).flatMap f = l.flatMap f
 | [], b, y, h, _ => by simp at h
 | a :: l, 0, y, _, h => by
  have h : f y = f a := h
  simp [h]
 | a :: l, b + 1, y, h, e => by
  have ih := flatMap_set22 f l b y (by simpa using h) (by simpa [List.getD] using e)
  simp [ih]
theorem mid_flatMap22 {β : Type} (f : In → List β) (l : List In) (k : Nat) (h : f markI = []) : (l.take k ++ markI :: l.drop k).flatMap f = l.flatMap f := by
 rw [List.flatMap_append, List.flatMap_cons, h, List.nil_append, ← List.flatMap_append, List.take_append_drop]
section
variable {p : Pr} {b k : Nat}
theorem conP_mark (hb : b < p.blks.length) : conP (markP p b k) = conP p := by
 unfold conP
 refine flatMap_set22 (conB p.objs.length) p.blks b _ hb ?_
 unfold conB
 rw [show (markB (p.blks.getD b default) k).ins = (p.blks.getD b default).ins.take k ++ markI :: (p.blks.getD b default).ins.drop k from rfl, mid_flatMap22 _ _ _ rfl]
 rfl
theorem spP_mark (hb : b < p.blks.length) (r : Nat) : spP (markP p b k) r = spP p r := by
 have e : defsP (markP p b k) r = defsP p r := by
  unfold defsP insP
  rw [List.filter_flatMap, List.filter_flatMap]
  refine flatMap_set22 (fun b : Bk => b.ins.filter fun i => defI i == (r : Int)) p.blks b _ hb ?_
  show ((p.blks.getD b default).ins.take k ++ markI :: (p.blks.getD b default).ins.drop k).filter _ = _
  have h1 : (defI markI == (r : Int)) = false := by
   have : defI markI = -1 := rfl
   rw [this]; simp
  rw [List.filter_append, List.filter_cons, h1]
  simp only [Bool.false_eq_true, if_false]
  rw [← List.filter_append, List.take_append_drop]
 unfold spP
 rw [e]
 rfl
theorem exF_mark (hb : b < p.blks.length) (r : Int) : exF (markP p b k) r = exF p r := by
 unfold exF
 rw [spP_mark hb]
 rfl
theorem mem_mark (hb : b < p.blks.length) {B : Bk} (h : B ∈ (markP p b k).blks) : B ∈ p.blks ∨ B = markB (p.blks.getD b default) k := List.mem_or_eq_of_mem_set h
theorem mem_markB {B : Bk} {i : In} (h : i ∈ (markB B k).ins) : i ∈ B.ins ∨ i = markI := by
 have h : i ∈ B.ins.take k ++ markI :: B.ins.drop k := h
 rcases List.mem_append.1 h with h | h
 ·exact .inl (List.mem_of_mem_take h)
 ·rcases List.mem_cons.1 h with h | h
  ·exact .inr h
  ·exact .inl (List.mem_of_mem_drop h)
theorem sum_bd22 (c : Nat) : ∀ l : List Nat, (∀ x ∈ l, x ≤ c) → l.sum ≤ l.length * c
 | [], _ => by simp
 | a :: l, h => by
  have h1 := sum_bd22 c l fun x hx => h x (List.mem_cons_of_mem _ hx)
  have h2 := h a List.mem_cons_self
  rw [List.sum_cons, List.length_cons, Nat.add_mul]
  omega
theorem markB_len (B : Bk) : (markB B k).ins.length ≤ B.ins.length + 1 := by
 show (B.ins.take k ++ markI :: B.ins.drop k).length ≤ _
 rw [List.length_append, List.length_cons, List.length_take, List.length_drop]; omega
theorem okI_mark (m : Md) (p : Pr) : okI m p markI = true := by
 rfl
variable {m : Md} {n : Nat}
theorem okP_mark (h : AlP m p) (hb : b < p.blks.length) : okP m (markP p b k) = true := by
 have hh := okP_head h.ok
 have hlen : (markP p b k).blks.length = p.blks.length := List.length_set
 refine okP_yes22 ⟨hh.p0, hh.p6, hh.pr, hh.r8, hh.ol, by rw [hlen]; exact hh.b1, by rw [hlen]; exact hh.b4, hh.sl⟩ ?_ ?_
 ·unfold insN
  have := sum_bd22 61 ((markP p b k).blks.map fun b => b.ins.length) (fun x hx => by
   obtain ⟨B, hB, rfl⟩ := List.mem_map.1 hx
   rcases mem_mark hb hB with h1 | rfl
   ·have := (h.ins B h1).1; omega
   ·have h1 := (h.ins (p.blks.getD b default) (getD_mem22 hb)).1
    have h2 := markB_len (k := k) (p.blks.getD b default)
    omega)
  rw [List.length_map, hlen] at this
  have := h.blks
  omega
 ·rw [List.all_eq_true]
  intro B hB
  have hall := h.all
  rw [List.all_eq_true] at hall
  have key : ∀ B, B ∈ p.blks → okB m (markP p b k) B = okB m p B := fun B _ => by
   unfold okB
   rw [endF_same (p := p) (q := markP p b k) rfl rfl hlen B]
   congr 1
  rcases mem_mark hb hB with h1 | rfl
  ·rw [key B h1]; exact hall B h1
  ·have h2 := hall _ (getD_mem22 hb)
   unfold okB at h2 ⊢
   rw [Bool.and_eq_true] at h2 ⊢
   refine ⟨?_, ?_⟩
   ·rw [List.all_eq_true]
    intro i hi
    rw [okI_same (p := p) (q := markP p b k) rfl rfl m i]
    rcases mem_markB hi with h3 | rfl
    ·exact List.all_eq_true.1 h2.1 i h3
    ·exact okI_mark m p
   ·have := endF_same (p := p) (q := markP p b k) rfl rfl hlen (markB (p.blks.getD b default) k)
    rw [this]; exact h2.2
theorem inOk_mark : InOk markI := ⟨by unfold I64; decide, by unfold I64; decide, by unfold I64; decide, by unfold I64; decide, by unfold I64; decide, by unfold I64; decide, by unfold I64; decide, by unfold I64; decide, by decide, fun x hx => by cases hx⟩
theorem prOk_mark (h : PrOk p) (hb : b < p.blks.length) : PrOk (markP p b k) := ⟨h.params, h.regs, h.objs, fun B hB => by
 rcases mem_mark hb hB with h1 | rfl
 ·exact h.blks B h1
 ·have h2 := h.blks _ (getD_mem22 hb)
  exact ⟨fun i hi => by
   rcases mem_markB hi with h3 | rfl
   ·exact h2.ins i h3
   ·exact inOk_mark, h2.fin, h2.a, h2.to, h2.els⟩⟩
theorem fi_mark (h : AlP m (m.procs.getD n default)) (hn : n < m.procs.length) (hb : b < (m.procs.getD n default).blks.length) : FiA (withM m n (markP (m.procs.getD n default) b k)) n := by
 have e : (withM m n (markP (m.procs.getD n default) b k)).procs.getD n default = markP (m.procs.getD n default) b k := by rw [getD_with hn, if_pos rfl]
 have hl : (withM m n (markP (m.procs.getD n default) b k)).procs.length = m.procs.length := List.length_set
 have hlen : (markP (m.procs.getD n default) b k).blks.length = (m.procs.getD n default).blks.length := List.length_set
 have hok : okP (withM m n (markP (m.procs.getD n default) b k)) (markP (m.procs.getD n default) b k) = true := by
  have h1 := okP_with (m := m) (n := n) (q := markP (m.procs.getD n default) b k) hn (⟨rfl, rfl⟩ : Like (pk m n) (markP (m.procs.getD n default) b k)) (markP (m.procs.getD n default) b k)
  exact h1.trans (okP_mark h hb)
 have hf := h.fi hn
 constructor
 ·rw [hl]; exact hn
 ·rw [hl]; exact hf.pl
 ·exact hf.gl
 ·rw [e]; exact hf.r0
 ·rw [e]; exact hf.r40
 ·rw [e]; exact hf.ob
 ·rw [e]; exact hok
 ·rw [e]; exact prOk_mark hf.pr hb
 ·rw [e, hlen]; exact hf.b0
 ·rw [e, hlen]; exact hf.bl
 ·rw [e]
  intro B hB
  rcases mem_mark hb hB with h1 | rfl
  ·exact hf.il B h1
  ·have h1 := h.ins _ (getD_mem22 hb)
   have h2 := markB_len (k := k) ((m.procs.getD n default).blks.getD b default)
   refine ⟨by omega, fun i hi => ?_⟩
   rcases mem_markB hi with h3 | rfl
   ·exact h1.2 i h3
   ·decide
 ·rw [e]; exact outs_in22 hok
 ·rw [e]
  intro B hB i hi hm
  rcases mem_mark hb hB with h1 | rfl
  ·exact hf.ac B h1 i hi hm
  ·rcases mem_markB hi with h3 | rfl
   ·exact hf.ac _ (getD_mem22 hb) i h3 hm
   ·exact absurd hm (by decide)
 ·rw [e]
  intro r
  rw [exF_mark hb]
  exact hf.hof r
theorem meet_mark {kv kv' : VwK} {x x' : AS} {sp sp' : List Sp} {T : Nat} (hb : b < p.blks.length) (h0 : 0 ≤ p.regs) (hl : kv.bs.length = p.regs.toNat) (hl' : kv'.bs.length = p.regs.toNat)
  (hC : ∀ c ∈ conP p, c.holds x.sem) (hE : x.End p T) (hE' : x'.End (markP p b k) T) (hs : ∀ r, r < p.regs.toNat → sp.getD r default = spP p r) (hs' : ∀ r, r < p.regs.toNat → sp'.getD r default = spP (markP p b k) r)
  (i j : In) (h : meetV kv' x' sp' i j = true) : meetV kv x sp i j = true := by
 have hx : ∀ o t, x'.sem o t → x.sem o t := hE'.lo x.sem (by rw [conP_mark hb]; exact hC) (fun o t ht => hE.up o t ht)
 have hex : ∀ r, exV kv' sp' r = exV kv sp r := fun r => by
  rw [exV_exF (P := markP p b k) hl' h0 hs' r, exV_exF hl h0 hs r, exF_mark hb]
 unfold meetV at h ⊢
 rw [hex, hex] at h
 simp only [Bool.and_eq_true] at h ⊢
 obtain ⟨⟨⟨h1, h2⟩, h3⟩, h4⟩ := h
 refine ⟨⟨⟨h1, h2⟩, ?_⟩, h4⟩
 rw [bne_iff_ne] at h3 ⊢
 intro hz
 obtain ⟨t, ht⟩ := Nat.exists_testBit_of_ne_zero h3
 rw [Nat.testBit_and, Bool.and_eq_true] at ht
 have a1 := hx (some i.a.toNat) t ht.1
 have a2 := hx (some j.a.toNat) t ht.2
 have a1 : (x.regs.getD i.a.toNat 0).testBit t = true := a1
 have a2 : (x.regs.getD j.a.toNat 0).testBit t = true := a2
 have : (x.regs.getD i.a.toNat 0 &&& x.regs.getD j.a.toNat 0).testBit t = true := by rw [Nat.testBit_and, a1, a2]; rfl
 rw [hz] at this
 simp at this
end
end Go.Proofs.Ytmcddolkpcgddaa

set_option linter.all false
namespace Go.Proofs.Ytmcddolkpcgddaa
open Go.ChangeShapes Go.WideShapes Go.ChangeAt Go.RowKit
set_option maxHeartbeats 4000000
set_option linter.unusedVariables false
set_option maxRecDepth 100000
end Go.Proofs.Ytmcddolkpcgddaa

set_option linter.all false
namespace Go.Proofs.Ytmcddolkpcgddaa
open Go.ChangeShapes Go.WideShapes Go.ChangeAt Go.RowKit
set_option maxHeartbeats 4000000
set_option maxRecDepth 100000
set_option linter.unusedVariables false

theorem info_pr : (Try.prog.info? 32).map (fun i => (i.zero, i.size, i.bytes)) = some (some (.agg #[.string ⟨#[]⟩, .bool false, .int .i64 0, .int .i64 0, .slice none 0 0, .slice none 0 0]), 6, 88) := by kernel_rfl
theorem pr_ones (nm : ByteArray) (vd : Bool) (a b : Int) (v v' : Value) (hv : ∃ a n c, v = .slice a n c) (hv' : ∃ a n c, v' = .slice a n c) : ∀ u ∈ [Value.string nm, .bool vd, .int .i64 a, .int .i64 b, v, v'], u.oneCell' = true := fun u hu => by
 obtain ⟨x, y, z, rfl⟩ := hv
 obtain ⟨x', y', z', rfl⟩ := hv'
 simp only [List.mem_cons, List.not_mem_nil, or_false] at hu
 rcases hu with rfl | rfl | rfl | rfl | rfl | rfl <;> rfl
/-- a row of procedures of the call's own -/
structure PrD (w W0 wr : World) (v : Value) (L : List (Pr × ByteArray × Value × Value)) (l : List Pr) : Prop where
 own : wr.ownsRow (W0.heap.size + 1) 32 6 v L.length (L.flatMap prCells)
 good : ∀ x ∈ L, RdSls w x.2.2.1 x.1.objs ∧ RdBks w x.2.2.2 x.1.blks
 is : L.map Prod.fst = l
 below : Below W0.heap.size W0 wr
 le : Below w.heap.size w W0
 sz : W0.heap.size + 1 ≤ wr.heap.size
section
variable {w W0 wr w' : World} {v v' : Value} {L : List (Pr × ByteArray × Value × Value)} {l : List Pr}
theorem PrD.nil (h : Below w.heap.size w W0) (hb : Below W0.heap.size W0 wr) (hz : W0.heap.size + 1 ≤ wr.heap.size) : PrD w W0 wr (.slice none 0 0) [] [] := ⟨own_nil _ _ _ _, fun x hx => (by cases hx), rfl, hb, h, hz⟩
theorem PrD.grow (h : PrD w W0 wr v L l) (hb : Below wr.heap.size wr w') : PrD w W0 w' v L l :=
 ⟨own_below h.own hb, h.good, h.is, h.below.trans (hb.mono h.below.size), h.le, Nat.le_trans h.sz hb.size⟩
theorem PrD.set (h : PrD w W0 wr v L l) (j : Nat) (x : Value) : PrD w W0 (wr.setCell ⟨W0.heap.size, j, none⟩ x) v L l := by
 have hg : wr.grownBy (wr.setCell ⟨W0.heap.size, j, none⟩ x) (some W0.heap.size) := ⟨rfl, rfl, rfl, by simp, fun k _ hk => heap_setCell_other wr ⟨W0.heap.size, j, none⟩ k x (fun e => hk (by rw [e]))⟩
 refine ⟨World.ownsRow.kept h.own hg ?_, h.good, h.is, grown_belG h.below h.below.size hg (fun b e => by simp only [Option.some.injEq] at e; omega), h.le, Nat.le_trans h.sz hg.size⟩
 rcases e2 : v.ownBlock with _ | b
 ·exact .inl rfl
 ·refine .inr fun e => ?_
  have := (World.ownsRow.lt h.own b e2).1
  simp only [Option.some.injEq] at e
  omega
theorem PrD.len (h : PrD w W0 wr v L l) : L.length = l.length := by rw [← h.is]; simp
theorem PrD.sl (h : PrD w W0 wr v L l) {k : Nat} (hk : l.length = k) : ∃ a c, v = .slice a k c := by
 obtain ⟨a, c, e⟩ := row_form h.own
 exact ⟨a, c, by rw [e, h.len, hk]⟩
theorem PrD.app {x : Pr} {nm : ByteArray} {vo vb : Value} (h : PrD w W0 wr v L l) (ho : RdSls w vo x.objs) (hb : RdBks w vb x.blks)
  (hown : w'.ownsRow (W0.heap.size + 1) 32 6 v' (L.length + 1) (L.flatMap prCells ++ prCells (x, nm, vo, vb))) (hg : wr.grownBy w' v.ownBlock) : PrD w W0 w' v' (L ++ [(x, nm, vo, vb)]) (l ++ [x]) := by
 refine ⟨by simpa using hown, fun y hy => ?_, by rw [List.map_append, h.is]; rfl, h.below.grown hg h.below.size (fun k hk => by have := (own_lt h.own hk).1; omega), h.le, Nat.le_trans h.sz hg.size⟩
 rcases List.mem_append.1 hy with hy | hy
 ·exact h.good y hy
 ·simp only [List.mem_cons, List.not_mem_nil, or_false] at hy
  rw [hy]; exact ⟨ho, hb⟩
theorem PrD.rd (h : PrD w W0 wr v L l) (hE : Ext w w') (ho : w'.ownsRow (W0.heap.size + 1) 32 6 v L.length (L.flatMap prCells)) : RdPrs w' v l := by
 haveI : Inhabited (Pr × ByteArray × Value × Value) := ⟨(default, ⟨#[]⟩, vNil, vNil)⟩
 have H := own_flat (α := Pr × ByteArray × Value × Value) (f := prCells) (by decide : 0 < 6) (fun _ => rfl) ho
 have hl := h.len
 unfold RdPrs
 rw [← hl]
 obtain ⟨a, c, h1, h2, h3, h4⟩ := H
 refine ⟨a, c, h1, h2, h3, fun i hi => ?_⟩
 obtain ⟨b, o, e1, r⟩ := h4 i hi
 have eg : L.getD i default = L[i] := by simp [List.getD, hi]
 have eg2 : l.getD i default = L[i].1 := by rw [← h.is]; simp [List.getD, hi]
 rw [eg] at r
 have := h.good _ (List.getElem_mem hi)
 refine ⟨b, o, e1, ?_⟩
 dsimp only
 rw [eg2]
 exact ⟨⟨_, r 0 _ rfl⟩, r 1 _ rfl, r 2 _ rfl, r 3 _ rfl, ⟨_, r 4 _ rfl, this.1.ext hE⟩, ⟨_, r 5 _ rfl, this.2.ext hE⟩⟩
end
def withLn (m : Md) (n : Nat) (q : Pr) (k : Nat) : List Pr := (withM m n q).procs.take k
theorem withLn_len (m : Md) (n : Nat) (q : Pr) {k : Nat} (h : k ≤ m.procs.length) : (withLn m n q k).length = k := by unfold withLn; rw [List.length_take, withM_len]; omega
theorem withL_yes (m : Md) (n : Nat) (q : Pr) (h : n < m.procs.length) : withLn m n q (n + 1) = withLn m n q n ++ [q] := by
 unfold withLn
 rw [take_snocD _ _ (by rw [withM_len]; exact h)]
 have : (withM m n q).procs.getD n default = q := pk_with m n q h
 rw [this]
theorem withL_no (m : Md) (n : Nat) (q : Pr) {k : Nat} (h : k < m.procs.length) (hk : k ≠ n) : withLn m n q (k + 1) = withLn m n q k ++ [m.procs.getD k default] := by
 unfold withLn
 rw [take_snocD _ _ (by rw [withM_len]; exact h)]
 have : (withM m n q).procs.getD k default = m.procs.getD k default := pk_other m n q hk
 rw [this]
theorem withL_all (m : Md) (n : Nat) (q : Pr) : withLn m n q m.procs.length = (withM m n q).procs := by unfold withLn; rw [← withM_len m n q, List.take_length]
theorem keep_bel4 {S : Nat → Prop} {w w' : World} (h : Below w.heap.size w w') (hS : ∀ b, S b → b < w.heap.size) : Keep S w w' := fun b o hb => World.cell?_of_block (w := w) (a := ⟨b, o, none⟩) (h.block b (hS b hb))
theorem withm_c (m : Md) (q : Pr) (n : Nat) (vm vq : Value) (w : World) (hm : MdV w vm m) (hq : PrV w vq q) (hn : n < m.procs.length) (hpl : m.procs.length ≤ 1000) :
  Calls Try.prog 18 #[vm, .int .i64 (n : Int), vq] w fun e w' => (∃ v', e = .returned v' ∧ MdV w' v' (withM m n q)) ∧ Below w.heap.size w w' := by
 obtain ⟨vg, vd, vp, rfl, hvg, hvd, hvp⟩ := hm
 obtain ⟨qn, qo, qb, rfl, hqo, hqb⟩ := hq
 obtain ⟨ap, cp, rfl, hp1, hp2, -⟩ := id hvp
 obtain ⟨qao, qco, rfl, -⟩ := id hqo
 obtain ⟨qab, qcb, rfl, -⟩ := id hqb
 have HPS := Lib.hid (RdPrs.at6 hvp).2
 have HG := Lib.hid hvg
 have HD := Lib.hid hvd
 have HQO := Lib.hid hqo
 have HQB := Lib.hid hqb
 obtain ⟨ag, cg, rfl, -⟩ := hvg
 obtain ⟨ad, cd, rfl, -⟩ := hvd
 clear hvp hqo hqb hp1
 unfold maxLen at hp2
 obtain ⟨W0, hW0⟩ : ∃ W0, W0 = allocs w [.cells #[.slice ag m.globs.length cg, .slice ad m.data.length cd, .slice ap m.procs.length cp, .int .i64 m.main] 26, .cells #[.string qn, .bool q.void, .int .i64 q.params, .int .i64 q.regs, .slice qao q.objs.length qco, .slice qab q.blks.length qcb] 32, .cells #[.slice none 0 0, .slice none 0 0, .slice none 0 0, .int .i64 0] 26] := ⟨_, rfl⟩
 have B0 : Hid (Below w.heap.size w W0) := by rw [hW0]; exact allocs_below _ _
 have H0 : Hid (W0.heap[w.heap.size]? = some (.cells #[.slice ag m.globs.length cg, .slice ad m.data.length cd, .slice ap m.procs.length cp, .int .i64 m.main] 26 (0, 0))) := by rw [hW0]; exact allocs_heap _ w 0 (by simp)
 have H1 : Hid (W0.heap[w.heap.size + 1]? = some (.cells #[.string qn, .bool q.void, .int .i64 q.params, .int .i64 q.regs, .slice qao q.objs.length qco, .slice qab q.blks.length qcb] 32 (0, 0))) := by rw [hW0]; exact allocs_heap _ w 1 (by simp)
 have H2 : Hid (W0.heap[w.heap.size + 2]? = some (.cells #[.slice none 0 0, .slice none 0 0, .slice none 0 0, .int .i64 0] 26 (0, 0))) := by rw [hW0]; exact allocs_heap _ w 2 (by simp)
 have l0w : w.heap.size < W0.heap.size := (Array.getElem?_eq_some_iff.1 H0.out).1
 have l1w : w.heap.size + 1 < W0.heap.size := (Array.getElem?_eq_some_iff.1 H1.out).1
 have l2w : w.heap.size + 2 < W0.heap.size := (Array.getElem?_eq_some_iff.1 H2.out).1
 have hz0 : W0.heap.size = w.heap.size + 1 + 1 + 1 := by rw [hW0, allocs_size]; simp
 unfold allocs at hW0
 simp only [List.foldl_cons, List.foldl_nil] at hW0
 go_enter Try.func18, Try.ntmps18
 go_wp2_with fail
 rw [show w.heap.size + 1 + 1 + 1 = W0.heap.size from hz0.symm, ← hW0]
 clear hW0 hz0
 obtain ⟨W1, hW1⟩ : ∃ W1, W1 = W0.alloc (.cells #[.slice ag m.globs.length cg, .slice ad m.data.length cd, .slice none 0 0, .int .i64 m.main] 26) := ⟨_, rfl⟩
 have G1 : Hid (W1.heap[W0.heap.size]? = some (.cells #[.slice ag m.globs.length cg, .slice ad m.data.length cd, .slice none 0 0, .int .i64 m.main] 26)) := by
  rw [hW1]; exact heap_alloc_new W0 _
 have B1 : Below W0.heap.size W0 W1 := by
  rw [hW1]; exact below_alloc W0 _
 have D0 : Hid (PrD w W0 W1 (.slice none 0 0) [] (withLn m n q 0)) := PrD.nil B0.out B1 (Array.getElem?_eq_some_iff.1 G1.out).1
 try rw [← hW1]
 clear hW1 B1
 go_loopw [8] (fun i wr => ∃ (k : Nat) (L : List (Pr × ByteArray × Value × Value)) (vz : Value), i = .int .i64 (k : Int) ∧ k ≤ m.procs.length ∧ Hid (PrD w W0 wr vz L (withLn m n q k)) ∧ Hid (wr.heap[W0.heap.size]? = some (.cells #[.slice ag m.globs.length cg, .slice ad m.data.length cd, vz, .int .i64 m.main] 26))) (fun i _ => m.procs.length - (intOf i).toNat)
 case atStart => exact ⟨0, [], _, rfl, Nat.zero_le _, D0, G1⟩
 case round =>
  clear D0 G1
  obtain ⟨k, L, vz, rfl, hk, D, G⟩ := hrel
  obtain ⟨az, cz, rfl⟩ := D.out.sl (withLn_len m n q hk)
  have H0r := Lib.hid ((D.out.below.block _ l0w).trans H0.out)
  have H1r := Lib.hid ((D.out.below.block _ l1w).trans H1.out)
  obtain ⟨y0, y1, y2, y3, l0⟩ := cl4 H0r.out
  by_cases hlt : k < m.procs.length
  ·have g1 : decide ((k : Int) < (m.procs.length : Int)) = true := decide_eq_true (by omega)
   have g2 : decide (k < m.procs.length) = true := decide_eq_true hlt
   obtain ⟨x0, x1, x2, x3, x4, x5, l1⟩ := cl6 H1r.out
   obtain ⟨z0, z1, z2, z3, lz⟩ := cl4 G.out
   by_cases hkn : k = n
   ·subst hkn
    have HDS := Lib.hid (withL_yes m k q hlt)
    have hone := Lib.hid (pr_ones qn q.void q.params q.regs (.slice qao q.objs.length qco) (.slice qab q.blks.length qcb) ⟨_, _, _, rfl⟩ ⟨_, _, _, rfl⟩)
    have DW2 := Lib.hid (D.out.grow (below_alloc wr (.cells #[.string qn, .bool q.void, .int .i64 q.params, .int .i64 q.regs, .slice qao q.objs.length qco, .slice qab q.blks.length qcb] 32)))
    have GW2 := Lib.hid (((below_alloc wr (.cells #[.string qn, .bool q.void, .int .i64 q.params, .int .i64 q.regs, .slice qao q.objs.length qco, .slice qab q.blks.length qcb] 32)).block _ lz).trans G.out)
    have lz2 : W0.heap.size < (wr.alloc (.cells #[.string qn, .bool q.void, .int .i64 q.params, .int .i64 q.regs, .slice qao q.objs.length qco, .slice qab q.blks.length qcb] 32)).heap.size := (Array.getElem?_eq_some_iff.1 GW2.out).1
    have HLk : Hid (L.length = k) := by show _ = _; rw [D.out.len, withLn_len _ _ _ hk]
    have hLk0 : L.length ≤ 1000000000 := by rw [HLk.out]; omega
    have HSZ := Lib.hid DW2.out.sz
    go_wp2_with (at_builtin; refine appG 24 32 info_pr Try.underlying24 rfl (by decide) (by decide) [.string qn, .bool q.void, .int .i64 q.params, .int .i64 q.regs, .slice qao q.objs.length qco, .slice qab q.blks.length qcb] rfl hone.out DW2.out.own rfl rfl rfl rfl (cell_newX _ _ _ _ (by simp)) hLk0 HSZ.out ?_; intro v6 w6 O6 G6 D6; obtain ⟨a6, c6, rfl⟩ := row_form O6; have D7 := Lib.hid (DW2.out.app (x := q) (nm := qn) HQO.out HQB.out O6 G6); have GW3 := Lib.hid ((G6.block W0.heap.size lz2 (fun e => by have := (World.ownsRow.lt DW2.out.own _ e.symm).1; omega)).trans GW2.out); clear z0 z1 z2 z3 lz O6 G6 D6; obtain ⟨z0, z1, z2, z3, lz⟩ := cl4 GW3.out; have zf := frozen_of_heap GW3.out 2)
    have D8 := Lib.hid (D7.out.set 2 (.slice a6 (L.length + 1) c6))
    have G8 : Hid ((w6.setCell ⟨W0.heap.size, 2, none⟩ (.slice a6 (L.length + 1) c6)).heap[W0.heap.size]? = some (.cells #[.slice ag m.globs.length cg, .slice ad m.data.length cd, .slice a6 (L.length + 1) c6, .int .i64 m.main] 26)) := heap_setCell_same _ _ 2 _ _ _ GW3.out
    go_roundw
    case rel => exact ⟨k + 1, L ++ [(q, qn, .slice qao q.objs.length qco, .slice qab q.blks.length qcb)], _, by go_num, hlt, by rw [HDS.out]; exact D8, G8⟩
    case measure => simp [intOf]; omega
   ·have HDS := Lib.hid (withL_no m n q hlt hkn)
    have g3 : ((k : Int) == (n : Int)) = false := by rw [beq_eq_false_iff_ne]; omega
    obtain ⟨b, o, nm, vo, vb, rfl, ho, hb, c0, c1, c2, c3, c4, c5⟩ := HPS.out k hlt
    have hE : Ext w wr := (Ext.below D.out.le).trans (Ext.below D.out.below)
    have lbw := World.block_lt_of_cell? w _ c0
    replace c0 := hE _ _ c0
    replace c1 := hE _ _ c1
    replace c2 := hE _ _ c2
    replace c3 := hE _ _ c3
    replace c4 := hE _ _ c4
    replace c5 := hE _ _ c5
    have HPO := Lib.hid ho
    have HPB := Lib.hid hb
    obtain ⟨pao, pco, rfl, -⟩ := ho
    obtain ⟨pab, pcb, rfl, -⟩ := hb
    have lww := D.out.le.size
    clear hE
    generalize m.procs.getD k default = P at *
    go_wp2_with fail
    refine wp_region_game (fun x => x = w.heap.size ∨ x = W0.heap.size ∨ x = b) (by kernel_rfl) ?_
    refine E_mob2s [0, 1, 2, 3, 4, 5, 6] _ _ _ _ (by kernel_rfl) ?_
    simp only [List.map_cons, List.map_nil, List.getElem?_toArray, List.getElem?_cons_succ, List.getElem?_cons_zero, Option.getD_some, List.size_toArray, List.length_cons, List.length_nil, Nat.reduceAdd, Nat.reduceSub]
    repeat (go_big_quiet_step (fail))
    refine wpQuiet_nil ?_
    obtain ⟨W6, hW6⟩ : ∃ W6 : World, W6 = ⟨wr.heap, wr.tape, wr.drawn + 1, wr.os, wr.output⟩ := ⟨_, rfl⟩
    have BD : Below wr.heap.size wr W6 := by rw [hW6]; exact ⟨rfl, rfl, rfl, Nat.le_refl _, fun _ _ => rfl⟩
    have hs6 : W6.heap.size = wr.heap.size := by rw [hW6]
    have D := Lib.hid (D.out.grow BD)
    have G := Lib.hid ((BD.block _ lz).trans G.out)
    have hbz : b < W6.heap.size := by have := D.out.below.size; omega
    have hwz : w.heap.size < W6.heap.size := by omega
    have hxz : W0.heap.size < W6.heap.size := by omega
    rw [← hW6]
    clear hW6 BD z0 z1 z2 z3 lz y0 y1 y2 y3 l0 x0 x1 x2 x3 x4 x5 l1 c0 c1 c2 c3 c4 c5
    have lz := hxz
    have hone := Lib.hid (pr_ones nm P.void P.params P.regs (.slice pao P.objs.length pco) (.slice pab P.blks.length pcb) ⟨_, _, _, rfl⟩ ⟨_, _, _, rfl⟩)
    have DW2 := Lib.hid (D.out.grow (below_alloc W6 (.cells #[.string nm, .bool P.void, .int .i64 P.params, .int .i64 P.regs, .slice pao P.objs.length pco, .slice pab P.blks.length pcb] 32)))
    have GW2 := Lib.hid (((below_alloc W6 (.cells #[.string nm, .bool P.void, .int .i64 P.params, .int .i64 P.regs, .slice pao P.objs.length pco, .slice pab P.blks.length pcb] 32)).block _ lz).trans G.out)
    have lz2 : W0.heap.size < (W6.alloc (.cells #[.string nm, .bool P.void, .int .i64 P.params, .int .i64 P.regs, .slice pao P.objs.length pco, .slice pab P.blks.length pcb] 32)).heap.size := (Array.getElem?_eq_some_iff.1 GW2.out).1
    have HLk : Hid (L.length = k) := by show _ = _; rw [D.out.len, withLn_len _ _ _ hk]
    have hLk0 : L.length ≤ 1000000000 := by rw [HLk.out]; omega
    have HSZ := Lib.hid DW2.out.sz
    refine E_loud1 7 _ rfl (by kernel_rfl) ?_
    simp only [List.getElem_toArray, List.getElem_cons_succ, List.getElem_cons_zero]
    go_wp2_with fail
    refine ⟨keep_bel4 (below_alloc _ _) (fun x hx => by rcases hx with rfl | rfl | rfl <;> omega), ?_⟩
    refine E_loud1 8 _ rfl (by kernel_rfl) ?_
    simp only [List.getElem_toArray, List.getElem_cons_succ, List.getElem_cons_zero]
    generalize hWA : W6.alloc (.cells #[.string nm, .bool P.void, .int .i64 P.params, .int .i64 P.regs, .slice pao P.objs.length pco, .slice pab P.blks.length pcb] 32) = WA at *
    have hcn := cell_newX W6 [.string nm, .bool P.void, .int .i64 P.params, .int .i64 P.regs, .slice pao P.objs.length pco, .slice pab P.blks.length pcb] 32 W6.heap.size rfl
    have hWA2 : W6.alloc (.cells [.string nm, .bool P.void, .int .i64 P.params, .int .i64 P.regs, .slice pao P.objs.length pco, .slice pab P.blks.length pcb].toArray 32) = WA := hWA
    rw [hWA2, hs6] at hcn
    have hsA : W6.heap.size ≤ WA.heap.size := by rw [← hWA]; simp
    clear hWA hWA2
    refine appG 24 32 info_pr Try.underlying24 rfl (by decide) (by decide) [.string nm, .bool P.void, .int .i64 P.params, .int .i64 P.regs, .slice pao P.objs.length pco, .slice pab P.blks.length pcb] rfl hone.out DW2.out.own rfl rfl rfl rfl hcn hLk0 HSZ.out ?_
    intro v7 w7 O7 G7 D7
    obtain ⟨a7, c7, rfl⟩ := row_form O7
    have hno : ∀ x, x ≤ W0.heap.size → some x ≠ (Value.slice az k cz).ownBlock := fun x hx e => by have := (World.ownsRow.lt DW2.out.own x e.symm).1; omega
    refine ⟨fun x o hx => grown_cell G7 (by rcases hx with rfl | rfl | rfl <;> omega) (fun e => hno x (by rcases hx with rfl | rfl | rfl <;> omega) e.symm), ?_⟩
    have D9 := Lib.hid (DW2.out.app (x := P) (nm := nm) HPO.out HPB.out O7 G7)
    have GW3 := Lib.hid ((G7.block W0.heap.size lz2 (hno _ (Nat.le_refl _))).trans GW2.out)
    have lz3 := (Array.getElem?_eq_some_iff.1 GW3.out).1
    clear O7 G7 D7 hcn
    have z2 := cell_of_heap GW3.out 2
    have zf := frozen_of_heap GW3.out 2
    simp only [List.getElem?_toArray, List.getElem?_cons_zero, List.getElem?_cons_succ] at z2
    simp only [Act.put, List.setIfInBounds_toArray, List.set_cons_succ, List.set_cons_zero]
    refine E_mob2s [9] _ _ _ _ (by kernel_rfl) ?_
    simp only [List.map_cons, List.map_nil, List.getElem?_toArray, List.getElem?_cons_succ, List.getElem?_cons_zero, Option.getD_some, List.size_toArray, List.length_cons, List.length_nil, Nat.reduceAdd, Nat.reduceSub]
    repeat (go_big_quiet_step (fail))
    refine wpQuiet_nil ?_
    refine E_last 10 _ rfl (by kernel_rfl) ?_
    simp only [List.getElem_toArray, List.getElem_cons_succ, List.getElem_cons_zero]
    go_wp2_with fail
    refine E_done (by kernel_rfl) ?_ _
    go_wp2_with fail
    have D8 := Lib.hid (D9.out.set 2 (.slice a7 (L.length + 1) c7))
    have G8 : Hid ((w7.setCell ⟨W0.heap.size, 2, none⟩ (.slice a7 (L.length + 1) c7)).heap[W0.heap.size]? = some (.cells #[.slice ag m.globs.length cg, .slice ad m.data.length cd, .slice a7 (L.length + 1) c7, .int .i64 m.main] 26)) := heap_setCell_same _ _ 2 _ _ _ GW3.out
    go_roundw
    case rel => exact ⟨k + 1, L ++ [(P, nm, .slice pao P.objs.length pco, .slice pab P.blks.length pcb)], _, by go_num, hlt, by rw [HDS.out]; exact D8, G8⟩
    case measure => simp [intOf]; omega
  ·obtain rfl : k = m.procs.length := by omega
   have H2r := Lib.hid ((D.out.below.block _ l2w).trans H2.out)
   obtain ⟨x0, x1, x2, x3, l1⟩ := cl4 H2r.out
   obtain ⟨z0, z1, z2, z3, lz⟩ := cl4 G.out
   have zf := frozen_of_heap H2r.out
   have zf0 := zf 0
   have zf1 := zf 1
   have zf2 := zf 2
   have zf3 := zf 3
   clear zf
   go_wp2_with fail
   obtain ⟨W8, hW8⟩ : ∃ W8, W8 = (((wr.setCell ⟨w.heap.size + 2, 0, none⟩ (.slice ag m.globs.length cg)).setCell ⟨w.heap.size + 2, 1, none⟩ (.slice ad m.data.length cd)).setCell ⟨w.heap.size + 2, 2, none⟩ (.slice az m.procs.length cz)).setCell ⟨w.heap.size + 2, 3, none⟩ (.int .i64 m.main) := ⟨_, rfl⟩
   try rw [← hW8]
   have K8 : But (w.heap.size + 2) wr W8 := by
    rw [hW8]
    exact (((But.setCell _ _ wr _).trans (But.setCell _ _ _ _)).trans (But.setCell _ _ _ _)).trans (But.setCell _ _ _ _)
   have g8 : W8.heap[w.heap.size + 2]? = some (.cells #[.slice ag m.globs.length cg, .slice ad m.data.length cd, .slice az m.procs.length cz, .int .i64 m.main] 26) := by
    rw [hW8]
    exact heap_setCell_same _ _ 3 _ _ _ (heap_setCell_same _ _ 2 _ _ _ (heap_setCell_same _ _ 1 _ _ _ (heap_setCell_same wr _ 0 _ _ _ H2r.out)))
   clear hW8 z0 z1 z2 z3 lz x0 x1 x2 x3 l1 zf0 zf1 zf2 zf3 y0 y1 y2 y3
   obtain ⟨x0, x1, x2, x3, -⟩ := cl4 g8
   have B8 := (D.out.le.trans (D.out.below.mono D.out.le.size)).trans (K8.toBelow (B := w.heap.size) (by omega) (by omega))
   have hE := Ext.below B8
   have hrd : RdPrs W8 (.slice az m.procs.length cz) (withM m n q).procs := by
    rw [← withL_all]
    exact D.out.rd hE (World.ownsRow.kept D.out.own ⟨K8.os, K8.tape, K8.output, K8.size, fun x hx hne => K8.block x hx (fun e => hne (by rw [e]))⟩ (by
     rcases e2 : (Value.slice az m.procs.length cz).ownBlock with _ | x
     ·exact .inl rfl
     ·refine .inr fun e => ?_
      have := (World.ownsRow.lt D.out.own x e2).1
      simp only [Option.some.injEq] at e
      omega))
   refine bodyPost_ret (v := .agg #[.slice ag m.globs.length cg, .slice ad m.data.length cd, .slice az m.procs.length cz, .int .i64 m.main]) (by simp [results, Try.results18, go_sem, x0, x1, x2, x3]) rfl ?_
   exact ⟨⟨_, rfl, _, _, _, rfl, HG.out.ext hE, HD.out.ext hE, hrd⟩, B8⟩
end Go.Proofs.Ytmcddolkpcgddaa
