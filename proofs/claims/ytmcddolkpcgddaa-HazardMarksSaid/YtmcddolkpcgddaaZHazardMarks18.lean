/-
 A call's frame in memory beside the runner; what an instruction leaves as it was.; Instructions, blocks, procedures and modules written out in the text: how they lie in memory.; Contracts of (*irrun.runner).ins, operation by operation (but calls).; Contracts of (*irrun.runner).ins: loads, stores, places, what is put out and taken.; Contracts of (*irrun.runner).ins: places of objects and globals, what is put out and taken, marks.; A call within a run: what it must do, against the machine of single steps; the contract of into.; What stands in procedures that are right; rows of numbers, one by one.; The contract of (*irrun.runner).into, given what calls with less fuel do.; The contract of (*irrun.runner).ins: any instruction that is right.
-/
import Derived.Test.YtmcddolkpcgddaaZHazardMarks17
import Derived.Test.YtmcddolkpcgddaaZHazardMarks00
import Derived.Test.YtmcddolkpcgddaaZHazardMarks14
import Derived.Test.YtmcddolkpcgddaaZHazardMarks13
import Derived.IntWalk
import Derived.Test.YtmcddolkpcgddaaZHazardMarks11

set_option linter.all false
namespace Go.Proofs.Ytmcddolkpcgddaa
open Go.ChangeShapes Go.WideShapes Go.ChangeAt Go.RowKit
set_option maxHeartbeats 1000000
set_option linter.unusedVariables false
set_option maxRecDepth 20000

/-- all but the run's own blocks and a call's registers stays -/
structure Kq (k : RK) (bg : Nat) (vo vo' : Value) (w w' : World) : Prop where
 size : w.heap.size ≤ w'.heap.size
 «to» : vo'.ownBlock = vo.ownBlock ∨ ∃ g, vo'.ownBlock = some g ∧ w.heap.size ≤ g
 keep : ∀ b, b < w.heap.size → b ≠ k.br → b ≠ k.bm → some b ≠ vo.ownBlock → b ≠ bg → w'.heap[b]? = w.heap[b]?
theorem Kq.refl (k : RK) (bg : Nat) (vo : Value) (w : World) : Kq k bg vo vo w w := ⟨Nat.le_refl _, .inl rfl, fun _ _ _ _ _ _ => rfl⟩
theorem Kq.trans {k : RK} {bg : Nat} {v1 v2 v3 : Value} {w1 w2 w3 : World} (h : Kq k bg v1 v2 w1 w2) (h' : Kq k bg v2 v3 w2 w3) : Kq k bg v1 v3 w1 w3 := by
 refine ⟨Nat.le_trans h.size h'.size, ?_, fun b hb h1 h2 h3 h4 => ?_⟩
 ·rcases h'.to with e | ⟨g, e, hg⟩
  ·rw [e]; exact h.to
  ·exact .inr ⟨g, e, Nat.le_trans h.size hg⟩
 ·rw [h'.keep b (Nat.lt_of_lt_of_le hb h.size) h1 h2 ?_ h4, h.keep b hb h1 h2 h3 h4]
  rcases h.to with e | ⟨g, e, hg⟩
  ·rw [e]; exact h3
  ·rw [e]; intro e2; simp only [Option.some.injEq] at e2; omega
theorem Kp.q {k : RK} {vo vo' : Value} {w w' : World} (h : Kp k vo vo' w w') (bg : Nat) : Kq k bg vo vo' w w' := ⟨h.size, h.to, fun b hb h1 h2 h3 _ => h.keep b hb h1 h2 h3⟩
/-- what a call made itself may be written: from before it nothing else has turned -/
theorem Kq.p {k : RK} {bg : Nat} {vo vo' : Value} {w w1 w' : World} (hb : Below w.heap.size w w1) (h : Kq k bg vo vo' w1 w') (hg : w.heap.size ≤ bg) : Kp k vo vo' w w' := by
 refine ⟨Nat.le_trans hb.size h.size, ?_, fun b hl h1 h2 h3 => ?_⟩
 ·rcases h.to with e | ⟨g, e, hg⟩
  ·exact .inl e
  ·exact .inr ⟨g, e, Nat.le_trans hb.size hg⟩
 ·rw [h.keep b (Nat.lt_of_lt_of_le hl hb.size) h1 h2 h3 (by omega), hb.block b hl]
theorem Kq.of_below {k : RK} {bg : Nat} {vo : Value} {w w' : World} (h : Below w.heap.size w w') : Kq k bg vo vo w w' := (Kp.of_below h).q bg
theorem Kq.set (k : RK) (bg n : Nat) (vo x : Value) (w : World) : Kq k bg vo vo w (w.setCell ⟨bg, n, none⟩ x) := by
 refine ⟨by simp, .inl rfl, fun b _ _ _ _ h => ?_⟩
 exact heap_setCell_other w ⟨bg, n, none⟩ b x h

/-- a call's frame: its registers and where its objects lie -/
structure Fw (k : RK) (p : Pr) (bf bg c : Nat) (nm : ByteArray) (vob vbl vat : Value) (low : Int) (w : World) (vo : Value) (regs : List Int) : Prop where
 fx : w.ownsRow k.wp.heap.size 151 9 (rowOf bf 1) 1 [.slice (some ⟨bg, 0, none⟩) regs.length c, .string nm, .bool p.void, .int .i64 p.params, .int .i64 p.regs, vob, vbl, vat, .int .i64 low]
 ar : w.ownsRow k.wp.heap.size 3 1 vat p.objs.length ((slL p.objs p.objs.length).map (Value.int .i64))
 rr : w.ownsRow k.wp.heap.size 56 1 (.slice (some ⟨bg, 0, none⟩) regs.length c) regs.length (regs.map (Value.int .u32))
 ne : some bg ≠ vo.ownBlock
 wd : ∀ x ∈ regs, 0 ≤ x ∧ x < 4294967296
 cap : regs.length ≤ c ∧ c ≤ 1000000
section
variable {k : RK} {p : Pr} {bf bg c : Nat} {nm : ByteArray} {vob vbl vat : Value} {low : Int} {w w' : World} {vo vo' : Value} {regs : List Int} {s s' : RS}
theorem Fw.bgLt (h : Fw k p bf bg c nm vob vbl vat low w vo regs) : k.wp.heap.size ≤ bg ∧ bg < w.heap.size := own_lt h.rr rfl
theorem Fw.neR (h : Fw k p bf bg c nm vob vbl vat low w vo regs) (hr : Rn k w vo s) : bf ≠ k.br ∧ bf ≠ k.bm ∧ some bf ≠ vo.ownBlock ∧ bg ≠ k.br ∧ bg ≠ k.bm ∧ bf ≠ bg := by
 have q : ∀ {a b : Nat} {x y : Value}, x.ownBlock = some a → y.ownBlock = some b → (x.ownBlock = none ∨ x.ownBlock ≠ y.ownBlock) → a ≠ b := fun h1 h2 h3 e => by
  rcases h3 with h | h
  ·rw [h1] at h; cases h
  ·rw [h1, h2, e] at h; exact h rfl
 refine ⟨q rfl rfl (rows_neR h.fx hr.bx (by decide)), q rfl rfl (rows_neR h.fx hr.mm (by decide)), ?_, q rfl rfl (rows_neR h.rr hr.bx (by decide)), q rfl rfl (rows_neR h.rr hr.mm (by decide)), q rfl rfl (rows_neR h.fx h.rr (by decide))⟩
 rcases rows_neR h.fx hr.oo (by decide) with h | h
 ·cases h
 ·exact h
theorem Fw.keep (h : Fw k p bf bg c nm vob vbl vat low w vo regs) (hr : Rn k w vo s) (hk : Kp k vo vo' w w') : Fw k p bf bg c nm vob vbl vat low w' vo' regs := by
 have hn := h.neR hr
 have hvat := rows_neR h.ar hr.bx (by decide)
 have hvam := rows_neR h.ar hr.mm (by decide)
 have hvao := rows_neR h.ar hr.oo (by decide)
 have tr : ∀ {e : TypeId} {z n : Nat} {v : Value} {xs : List Value}, w.ownsRow k.wp.heap.size e z v n xs → (v.ownBlock = none ∨ v.ownBlock ≠ some k.br) → (v.ownBlock = none ∨ v.ownBlock ≠ some k.bm) → (v.ownBlock = none ∨ v.ownBlock ≠ vo.ownBlock) → w'.ownsRow k.wp.heap.size e z v n xs := by
  intro e z n v xs h h1 h2 h3
  obtain ⟨q0, ⟨rfl, q⟩ | ⟨b, cap, cur, rfl, hb, hgg, hrest⟩⟩ := h
  ·exact ⟨q0, .inl ⟨rfl, q⟩⟩
  ·refine ⟨q0, .inr ⟨b, cap, cur, rfl, hb, ?_, hrest⟩⟩
   simp only [Value.ownBlock, reduceCtorEq, false_or, ne_eq, Option.some.injEq] at h1 h2 h3
   rw [hk.keep b (Array.getElem?_eq_some_iff.1 hgg).1 h1 h2 (fun e => h3 e)]
   exact hgg
 refine ⟨tr h.fx (.inr (by simpa [rowOf, Value.ownBlock] using hn.1)) (.inr (by simpa [rowOf, Value.ownBlock] using hn.2.1)) (.inr (by simpa [rowOf, Value.ownBlock] using hn.2.2.1)), tr h.ar hvat hvam hvao,
  tr h.rr (.inr (by simpa [Value.ownBlock] using hn.2.2.2.1)) (.inr (by simpa [Value.ownBlock] using hn.2.2.2.2.1)) (.inr (by simpa [Value.ownBlock] using h.ne)), ?_, h.wd, h.cap⟩
 rcases hk.to with e | ⟨g, e, hg⟩
 ·rw [e]; exact h.ne
 ·rw [e]; have := h.bgLt; intro e2; simp only [Option.some.injEq] at e2; omega
theorem Fw.grow (h : Fw k p bf bg c nm vob vbl vat low w vo regs) (hb : Below w.heap.size w w') : Fw k p bf bg c nm vob vbl vat low w' vo regs :=
 ⟨own_below h.fx hb, own_below h.ar hb, own_below h.rr hb, h.ne, h.wd, h.cap⟩
end
end Go.Proofs.Ytmcddolkpcgddaa

set_option linter.all false
namespace Go.Proofs.Ytmcddolkpcgddaa
open Go.ChangeShapes Go.WideShapes Go.ChangeAt Go.RowKit
set_option maxHeartbeats 1000000
set_option linter.unusedVariables false
set_option maxRecDepth 20000

def vNil : Value := .slice none 0 0
def rowOf' (b n : Nat) : Value := .slice (some ⟨b, 0, none⟩) n n
/-- a row of structs that is known whole -/
theorem own_lit {w : World} {g : Nat} {e : TypeId} {s : Nat} {α : Type} {P : List α} {f : α → List Value} (hf : ∀ a, (f a).length = s) (hp : P.length ≤ 1000000) (h : w.heap[g]? = some (.cells (P.flatMap f).toArray e (0, 0))) : w.ownsRow 0 e s (rowOf' g P.length) P.length (P.flatMap f) := by
 have hl := flat_len f s hf P
 refine ⟨hl, .inr ⟨g, P.length, _, rfl, Nat.zero_le _, h, Nat.le_refl _, by unfold maxLen; omega, by simpa using hl, ?_⟩⟩
 rw [List.toList_toArray]; exact List.take_of_length_le (by omega)
theorem RdI.nil (w : World) : RdI w vNil [] := ⟨none, 0, rfl, Nat.le_refl _, by decide, fun i hi => absurd hi (Nat.not_lt_zero i)⟩
theorem RdW.nil (w : World) : RdW w vNil [] := ⟨none, 0, rfl, Nat.le_refl _, by decide, fun i hi => absurd hi (Nat.not_lt_zero i)⟩
theorem RdSls.nil (w : World) : RdSls w vNil [] := ⟨none, 0, rfl, Nat.le_refl _, by decide, fun i hi => absurd hi (Nat.not_lt_zero i)⟩
theorem RdYs.nil (w : World) : RdYs w vNil [] := ⟨none, 0, rfl, Nat.le_refl _, by decide, fun i hi => absurd hi (Nat.not_lt_zero i)⟩
theorem RdPrs.nil (w : World) : RdPrs w vNil [] := ⟨none, 0, rfl, Nat.le_refl _, by decide, fun i hi => absurd hi (Nat.not_lt_zero i)⟩
def inCells (x : In × Value) : List Value := [.int .i64 x.1.op, .int .i64 x.1.d, .int .i64 x.1.a, .int .i64 x.1.b, .int .i64 x.1.fn, .int .i64 x.1.obj, .int .i64 x.1.off, .int .i64 x.1.size, .int .u32 x.1.num, x.2, .bool x.1.log]
theorem RdIns.lit {w : World} {g : Nat} {e : TypeId} (L : List (In × Value)) (hp : L.length ≤ 1000000) (h : w.heap[g]? = some (.cells (L.flatMap inCells).toArray e (0, 0))) (ha : ∀ x ∈ L, RdI w x.2 x.1.args) : RdIns w (rowOf' g L.length) (L.map Prod.fst) := by
 have H := own_flat (α := In × Value) (f := inCells) (by decide : 0 < 11) (fun _ => rfl) (own_lit (fun _ => rfl) hp h)
 have hl : L.length = (L.map Prod.fst).length := by simp
 unfold RdIns
 rw [← hl]
 obtain ⟨a, c, h1, h2, h3, h4⟩ := H
 refine ⟨a, c, h1, h2, h3, fun i hi => ?_⟩
 obtain ⟨b, o, e1, r⟩ := h4 i hi
 have eg : L.getD i default = L[i] := by simp [List.getD, hi]
 have eg2 : (L.map Prod.fst).getD i default = L[i].1 := by simp [List.getD, hi]
 rw [eg] at r
 refine ⟨b, o, e1, ?_⟩
 dsimp only
 rw [eg2]
 exact ⟨r 0 _ rfl, r 1 _ rfl, r 2 _ rfl, r 3 _ rfl, r 4 _ rfl, r 5 _ rfl, r 6 _ rfl, r 7 _ rfl, r 8 _ rfl, ⟨_, r 9 _ rfl, ha _ (List.getElem_mem hi)⟩, r 10 _ rfl⟩
def bkCells (x : Bk × Value) : List Value := [x.2, .int .i64 x.1.fin, .int .i64 x.1.a, .int .i64 x.1.to, .int .i64 x.1.els]
theorem RdBks.lit {w : World} {g : Nat} {e : TypeId} (L : List (Bk × Value)) (hp : L.length ≤ 1000000) (h : w.heap[g]? = some (.cells (L.flatMap bkCells).toArray e (0, 0))) (ha : ∀ x ∈ L, RdIns w x.2 x.1.ins) : RdBks w (rowOf' g L.length) (L.map Prod.fst) := by
 have H := own_flat (α := Bk × Value) (f := bkCells) (by decide : 0 < 5) (fun _ => rfl) (own_lit (fun _ => rfl) hp h)
 have hl : L.length = (L.map Prod.fst).length := by simp
 unfold RdBks
 rw [← hl]
 obtain ⟨a, c, h1, h2, h3, h4⟩ := H
 refine ⟨a, c, h1, h2, h3, fun i hi => ?_⟩
 obtain ⟨b, o, e1, r⟩ := h4 i hi
 have eg : L.getD i default = L[i] := by simp [List.getD, hi]
 have eg2 : (L.map Prod.fst).getD i default = L[i].1 := by simp [List.getD, hi]
 rw [eg] at r
 refine ⟨b, o, e1, ?_⟩
 dsimp only
 rw [eg2]
 exact ⟨⟨_, r 0 _ rfl, ha _ (List.getElem_mem hi)⟩, r 1 _ rfl, r 2 _ rfl, r 3 _ rfl, r 4 _ rfl⟩
def slCells (x : Sl × ByteArray) : List Value := [.string x.2, .int .i64 x.1.size, .int .i64 x.1.align, .int .i64 x.1.cell]
theorem RdSls.lit {w : World} {g : Nat} {e : TypeId} (L : List (Sl × ByteArray)) (hp : L.length ≤ 1000000) (h : w.heap[g]? = some (.cells (L.flatMap slCells).toArray e (0, 0))) : RdSls w (rowOf' g L.length) (L.map Prod.fst) := by
 haveI : Inhabited (Sl × ByteArray) := ⟨(default, ⟨#[]⟩)⟩
 have H := own_flat (α := Sl × ByteArray) (f := slCells) (by decide : 0 < 4) (fun _ => rfl) (own_lit (fun _ => rfl) hp h)
 have hl : L.length = (L.map Prod.fst).length := by simp
 unfold RdSls
 rw [← hl]
 obtain ⟨a, c, h1, h2, h3, h4⟩ := H
 refine ⟨a, c, h1, h2, h3, fun i hi => ?_⟩
 obtain ⟨b, o, e1, r⟩ := h4 i hi
 have eg : L.getD i default = L[i] := by simp [List.getD, hi]
 have eg2 : (L.map Prod.fst).getD i default = L[i].1 := by simp [List.getD, hi]
 rw [eg] at r
 refine ⟨b, o, e1, ?_⟩
 dsimp only
 rw [eg2]
 exact ⟨⟨_, r 0 _ rfl⟩, r 1 _ rfl, r 2 _ rfl, r 3 _ rfl⟩
def prCells (x : Pr × ByteArray × Value × Value) : List Value := [.string x.2.1, .bool x.1.void, .int .i64 x.1.params, .int .i64 x.1.regs, x.2.2.1, x.2.2.2]
theorem RdPrs.lit {w : World} {g : Nat} {e : TypeId} (L : List (Pr × ByteArray × Value × Value)) (hp : L.length ≤ 1000000) (h : w.heap[g]? = some (.cells (L.flatMap prCells).toArray e (0, 0))) (ha : ∀ x ∈ L, RdSls w x.2.2.1 x.1.objs ∧ RdBks w x.2.2.2 x.1.blks) : RdPrs w (rowOf' g L.length) (L.map Prod.fst) := by
 haveI : Inhabited (Pr × ByteArray × Value × Value) := ⟨(default, ⟨#[]⟩, vNil, vNil)⟩
 have H := own_flat (α := Pr × ByteArray × Value × Value) (f := prCells) (by decide : 0 < 6) (fun _ => rfl) (own_lit (fun _ => rfl) hp h)
 have hl : L.length = (L.map Prod.fst).length := by simp
 unfold RdPrs
 rw [← hl]
 obtain ⟨a, c, h1, h2, h3, h4⟩ := H
 refine ⟨a, c, h1, h2, h3, fun i hi => ?_⟩
 obtain ⟨b, o, e1, r⟩ := h4 i hi
 have eg : L.getD i default = L[i] := by simp [List.getD, hi]
 have eg2 : (L.map Prod.fst).getD i default = L[i].1 := by simp [List.getD, hi]
 rw [eg] at r
 have := ha _ (List.getElem_mem hi)
 refine ⟨b, o, e1, ?_⟩
 dsimp only
 rw [eg2]
 exact ⟨⟨_, r 0 _ rfl⟩, r 1 _ rfl, r 2 _ rfl, r 3 _ rfl, ⟨_, r 4 _ rfl, this.1⟩, ⟨_, r 5 _ rfl, this.2⟩⟩
theorem RdW.lit {w : World} {g : Nat} {e : TypeId} (L : List Int) (hp : L.length ≤ 1000000) (h : w.heap[g]? = some (.cells (L.map (Value.int .u32)).toArray e (0, 0))) : RdW w (rowOf' g L.length) L := by
 refine own_rows (B := 0) (e := e) 0 ⟨by simp, .inr ⟨g, L.length, _, rfl, Nat.zero_le _, h, Nat.le_refl _, by unfold maxLen; omega, by simp, ?_⟩⟩
 rw [Nat.mul_one, List.toList_toArray]; exact List.take_of_length_le (by simp)
theorem RdY.lit {w : World} {g : Nat} {e : TypeId} (L : List Int) (hp : L.length ≤ 1000000) (h : w.heap[g]? = some (.cells (L.map (Value.int .u8)).toArray e (0, 0))) : RdY w (rowOf' g L.length) L := by
 refine own_rows (B := 0) (e := e) 0 ⟨by simp, .inr ⟨g, L.length, _, rfl, Nat.zero_le _, h, Nat.le_refl _, by unfold maxLen; omega, by simp, ?_⟩⟩
 rw [Nat.mul_one, List.toList_toArray]; exact List.take_of_length_le (by simp)
theorem heap_of_alloc (w : World) (c : Array Value) (t : TypeId) {W0 : World} (h : W0 = w.alloc (.cells c t)) : W0.heap[w.heap.size]? = some (.cells c t (0, 0)) := by subst h; exact heap_alloc_new w _
/-- blocks made one behind the other -/
def allocs (w : World) (l : List Obj) : World := l.foldl World.alloc w
theorem allocs_below : ∀ (l : List Obj) (w : World), Below w.heap.size w (allocs w l)
 | [], w => Below.refl _ _
 | o :: l, w => ((Below.refl _ _).alloc (Nat.le_refl _) o).trans ((allocs_below l (w.alloc o)).mono (by simp))
theorem allocs_size : ∀ (l : List Obj) (w : World), (allocs w l).heap.size = w.heap.size + l.length
 | [], w => rfl
 | o :: l, w => by
  show (allocs (w.alloc o) l).heap.size = _
  rw [allocs_size l (w.alloc o)]; simp; omega
theorem allocs_heap : ∀ (l : List Obj) (w : World) (i : Nat), i < l.length → (allocs w l).heap[w.heap.size + i]? = l[i]?
 | [], _, _, h => absurd h (Nat.not_lt_zero _)
 | o :: l, w, 0, _ => by
  show (allocs (w.alloc o) l).heap[w.heap.size]? = some o
  rw [(allocs_below l (w.alloc o)).block w.heap.size (by simp)]
  exact heap_alloc_new w o
 | o :: l, w, i + 1, h => by
  have := allocs_heap l (w.alloc o) i (by simpa using h)
  show (allocs (w.alloc o) l).heap[w.heap.size + (i + 1)]? = l[i]?
  rw [← this]
  congr 1
  simp; omega
end Go.Proofs.Ytmcddolkpcgddaa

set_option linter.all false
namespace Go.Proofs.Ytmcddolkpcgddaa
open Go.ChangeShapes Go.WideShapes Go.ChangeAt Go.RowKit
set_option maxHeartbeats 2000000
set_option linter.unusedVariables false
set_option maxRecDepth 20000

section
variable {k : RK} {p : Pr} {bf bg c : Nat} {nm : ByteArray} {vob vbl vat : Value} {low : Int} {w w' : World} {vo vo' : Value} {regs : List Int} {s s' : RS}
end
end Go.Proofs.Ytmcddolkpcgddaa

set_option linter.all false
namespace Go.Proofs.Ytmcddolkpcgddaa
open Go.ChangeShapes Go.WideShapes Go.ChangeAt Go.RowKit
set_option maxHeartbeats 4000000
set_option linter.unusedVariables false
set_option maxRecDepth 20000

section
variable {k : RK} {p : Pr} {bf bg c : Nat} {nm : ByteArray} {vob vbl vat : Value} {low : Int} {w w' : World} {vo vo' : Value} {regs : List Int} {s s' : RS}
end
end Go.Proofs.Ytmcddolkpcgddaa

set_option linter.all false
namespace Go.Proofs.Ytmcddolkpcgddaa
open Go.ChangeShapes Go.WideShapes Go.ChangeAt Go.RowKit
set_option maxHeartbeats 4000000
set_option linter.unusedVariables false
set_option maxRecDepth 20000

section
variable {k : RK} {p : Pr} {bf bg c : Nat} {nm : ByteArray} {vob vbl vat : Value} {low : Int} {w w' : World} {vo vo' : Value} {regs : List Int} {s s' : RS}
end
end Go.Proofs.Ytmcddolkpcgddaa

set_option linter.all false
namespace Go.Proofs.Ytmcddolkpcgddaa
open Go.ChangeShapes Go.WideShapes Go.ChangeAt Go.RowKit
set_option maxHeartbeats 4000000
set_option linter.unusedVariables false
set_option maxRecDepth 20000

/-- a run's numbers are such as never leave their kinds -/
structure Gd (s : RS) : Prop where
 mem : MemOk s.mem
 i0 : 0 ≤ s.ins
 i1 : s.ins + s.fuel ≤ 10000000
 o1 : (s.out.length : Int) + s.fuel ≤ 10000000
 f0 : 0 ≤ s.fuel
 d0 : 0 ≤ s.deep
 d1 : s.deep ≤ 5000
theorem rg_words {regs : List Int} (h : ∀ x ∈ regs, 0 ≤ x ∧ x < 4294967296) (n : Int) : 0 ≤ rg regs n ∧ rg regs n < 4294967296 := by
 unfold rg
 by_cases hn : n.toNat < regs.length
 ·have : regs.getD n.toNat 0 ∈ regs := by simp [List.getD, hn]
  exact h _ this
 ·have : regs.getD n.toNat 0 = 0 := by simp [List.getD, Nat.le_of_not_lt hn]
  omega
theorem memOk_set {mem : List Int} (h : MemOk mem) (n : Nat) (x : Int) (hx : 0 ≤ x ∧ x < 256) : MemOk (mem.set n x) := by
 intro j
 rcases Nat.lt_or_ge j mem.length with hl | hl
 ·by_cases e : n = j
  ·subst e; simp [List.getD, hl, hx]
  ·have e3 : (mem.set n x).getD j 0 = mem.getD j 0 := by simp [List.getD, List.getElem?_set_ne e]
   rw [e3]; exact h j
 ·have : (mem.set n x).getD j 0 = 0 := by simp [List.getD, hl]
  omega
theorem memOk_store {mem : List Int} (h : MemOk mem) (n : Nat) (v : Int) : ∀ i, MemOk (storeP mem n v i)
 | 0 => h
 | i + 1 => memOk_set (memOk_store h n v i) _ _ ⟨Int.emod_nonneg _ (by decide), Int.emod_lt_of_pos _ (by decide)⟩
def GoodI (regs : List Int) (s : Oc) (o : Option (List Int × Oc)) : Prop := ∀ r, o = some r → MemOk r.2.mem ∧ s.ins ≤ r.2.ins ∧ r.2.ins ≤ s.ins + 1 ∧ r.2.out.length ≤ s.out.length + 1 ∧ r.1.length = regs.length
theorem good_ite {regs : List Int} {s : Oc} {q : Prop} [Decidable q] {a b : Option (List Int × Oc)} (h : GoodI regs s a) (h' : GoodI regs s b) : GoodI regs s (if q then a else b) := by split <;> assumption
theorem good_none {regs : List Int} {s : Oc} : GoodI regs s none := fun _ h => by cases h
theorem good_some {regs : List Int} {s : Oc} {x : List Int} {y : Oc} (h : MemOk y.mem ∧ s.ins ≤ y.ins ∧ y.ins ≤ s.ins + 1 ∧ y.out.length ≤ s.out.length + 1 ∧ x.length = regs.length) : GoodI regs s (some (x, y)) := fun _ h2 => by cases h2; exact h
/-- an instruction keeps a run's numbers in their bounds -/
theorem insM_good {m : Md} {inp : List Int} {p : Pr} {low : Int} {i : In} {regs : List Int} {s : Oc} (hm : MemOk s.mem) : GoodI regs s (insM m inp p low i regs s) := by
 unfold insM
 repeat' apply good_ite
 all_goals first
  | exact good_none
  | (apply good_some
     first
     | exact ⟨hm, Int.le_refl _, by omega, by omega, by simp⟩
     | exact ⟨memOk_store hm _ _ _, Int.le_refl _, by dsimp only; omega, by dsimp only; omega, by simp⟩
     | exact ⟨hm, Int.le_refl _, by dsimp only; omega, by simp, by simp⟩
     | exact ⟨hm, by dsimp only; omega, Int.le_refl _, by dsimp only; omega, by simp⟩)
end Go.Proofs.Ytmcddolkpcgddaa

set_option linter.all false
namespace Go.Proofs.Ytmcddolkpcgddaa
open Go Go.RowKit
set_option linter.unusedVariables false

structure Head (p : Pr) : Prop where
 p0 : 0 ≤ p.params
 p6 : p.params ≤ 6
 pr : p.params ≤ p.regs
 r8 : p.regs ≤ 8000
 ol : p.objs.length ≤ 400
 b1 : 1 ≤ p.blks.length
 b4 : p.blks.length ≤ 4000
 sl : p.objs.all slotF = true
theorem okP_head {m : Md} {p : Pr} (h : okP m p = true) : Head p := by
 unfold okP okHead at h
 simp only [Bool.and_eq_true, decide_eq_true_eq] at h
 obtain ⟨⟨h1, h2, h3, h4, h5, h6, h7, h8, h9⟩, -⟩ := h
 exact ⟨h1, h2, h3, h4, h5, h6, h7, h8⟩
theorem okP_blk {m : Md} {p : Pr} (h : okP m p = true) {b : Nat} (hb : b < p.blks.length) : okB m p (p.blks.getD b default) = true := by
 unfold okP at h
 simp only [Bool.and_eq_true] at h
 have h2 := h.2
 rw [List.all_eq_true] at h2
 exact h2 _ (by simp [List.getD, hb])
theorem okB_ins {m : Md} {p : Pr} {b : Bk} (h : okB m p b = true) {i : Nat} (hi : i < b.ins.length) : okI m p (b.ins.getD i default) = true := by
 unfold okB at h
 simp only [Bool.and_eq_true] at h
 have h2 := h.1
 rw [List.all_eq_true] at h2
 exact h2 _ (by simp [List.getD, hi])
theorem okB_end {m : Md} {p : Pr} {b : Bk} (h : okB m p b = true) : endF p b = true := by
 unfold okB at h
 simp only [Bool.and_eq_true] at h
 exact h.2
theorem RdI.at' {w : World} {a : Option Addr} {n c : Nat} {l : List Int} (h : RdI w (.slice a n c) l) : n = l.length ∧ ∀ k, k < l.length → ∃ b o, a = some ⟨b, o, none⟩ ∧ w.cell? ⟨b, o + k, none⟩ = some (.int .i64 (l.getD k 0)) := by
 obtain ⟨a', c', e, h1, h2, hc⟩ := h
 simp only [Value.slice.injEq] at e
 obtain ⟨rfl, rfl, rfl⟩ := e
 refine ⟨rfl, fun k hk => ?_⟩
 obtain ⟨b, o, rfl, h0⟩ := hc k hk
 exact ⟨b, o, rfl, by simpa using h0⟩
end Go.Proofs.Ytmcddolkpcgddaa

set_option linter.all false
namespace Go.Proofs.Ytmcddolkpcgddaa
open Go.ChangeShapes Go.WideShapes Go.ChangeAt Go.RowKit
set_option maxHeartbeats 4000000
set_option linter.unusedVariables false
set_option maxRecDepth 20000

section
variable {k : RK} {p : Pr} {bf bg c : Nat} {nm : ByteArray} {vob vbl vat : Value} {low : Int} {w w' : World} {vo vo' : Value} {regs : List Int} {s s' : RS}
end
end Go.Proofs.Ytmcddolkpcgddaa

set_option linter.all false
namespace Go.Proofs.Ytmcddolkpcgddaa
open Go.ChangeShapes Go.WideShapes Go.ChangeAt Go.RowKit
set_option maxHeartbeats 4000000
set_option linter.unusedVariables false
set_option maxRecDepth 20000

theorem okM_proc {m : Md} (h : okM m = true) {n : Nat} (hn : n < m.procs.length) : okP m (pk m n) = true := by
 unfold okM at h
 simp only [Bool.and_eq_true] at h
 have h2 := h.2.2.2
 rw [List.all_eq_true] at h2
 exact h2 _ (by unfold pk; simp [List.getD, hn])
theorem slot_sizes {l : List Sl} (h : l.all slotF = true) : ∀ i, i < l.length → 0 ≤ (l.getD i default).size ∧ (l.getD i default).size ≤ 40000 := fun i hi => by
 rw [List.all_eq_true] at h
 have := h (l.getD i default) (by simp [List.getD, hi])
 unfold slotF at this
 simp only [Bool.and_eq_true, decide_eq_true_eq] at this
 omega
theorem slE_small {l : List Sl} (h : l.all slotF = true) (hl : l.length ≤ 400) : ∀ j : Nat, j ≤ l.length → 0 ≤ slE l j ∧ slE l j ≤ 20000000 := fun j hj => by
 have := slE_bd l (slot_sizes h) j hj
 have h2 : (j : Int) ≤ 400 := by omega
 omega
theorem okM_globs {m : Md} (h : okM m = true) : m.globs.all slotF = true ∧ m.globs.length ≤ 200 ∧ m.data.length = m.globs.length := by
 unfold okM okHeadM at h
 simp only [Bool.and_eq_true, decide_eq_true_eq] at h
 exact ⟨h.1.2.2.1, h.1.2.1, h.1.1⟩
theorem regF_yes {p : Pr} {r : Int} (h : regF p r true = true) : 0 ≤ r ∧ r < p.regs := by
 unfold regF at h; simpa using h
theorem regF_no {p : Pr} {r : Int} (h : regF p r false = true) : r = -1 := by
 unfold regF at h; simpa using h
section
variable {k : RK} {p : Pr} {bf bg c : Nat} {nm : ByteArray} {vob vbl vat : Value} {low : Int} {w w' : World} {vo vo' : Value} {regs : List Int} {s s' : RS}
end
end Go.Proofs.Ytmcddolkpcgddaa
