/-
 A block of which nothing is reckoned twice (fold.block): the desk just made, the state in the loop.
-/
import Derived.Test.YtkhfddodmjnecaaDoorZFoldTwice42
set_option linter.all false
namespace Go.Proofs.YtkhfddodmjnecaaDoor
open Go.ChangeShapes Go.WideShapes Go.ChangeAt Go.RowKit Go.Maps
set_option maxHeartbeats 16000000
set_option maxRecDepth 100000
set_option linter.unusedVariables false

theorem vlsL_snoc : ∀ (l : List In) (i : In) (d : Dk), vlsL d (l ++ [i]) = vlsL d l ++ (if (insD (dskL d l) i).1.2 = true then [(insD (dskL d l) i).1.1] else [])
 | [], i, d => by
  by_cases h : (insD d i).1.2 = true <;> simp [vlsL, dskL, h]
 | x :: l, i, d => by
  show vlsL d (x :: (l ++ [i])) = _
  unfold vlsL
  rw [vlsL_snoc l i (insD d x).2]
  split <;> rfl
theorem dskL_snoc : ∀ (l : List In) (i : In) (d : Dk), dskL d (l ++ [i]) = (insD (dskL d l) i).2
 | [], i, d => rfl
 | x :: l, i, d => dskL_snoc l i (insD d x).2
theorem vlsL_len : ∀ (l : List In) (d : Dk), (vlsL d l).length ≤ l.length
 | [], d => Nat.le_refl _
 | x :: l, d => by
  have := vlsL_len l (insD d x).2
  unfold vlsL
  split <;> simp <;> omega
/-- the desk just made -/
theorem DkM.made (w0 : World) (R : Int) (hR : R ≤ 1000000) : DkM (((((w0.alloc (.map #[] 0)).alloc (.map #[] 0)).alloc (.map #[] 0)).alloc (.map #[] 0)).alloc (.cells #[.map (some w0.heap.size), .map (some (w0.heap.size + 1)), .map (some (w0.heap.size + 2)), .map (some (w0.heap.size + 3)), .int .i64 0, .int .i64 0] 80))
  (fun b => b = w0.heap.size + 4 ∨ b = w0.heap.size ∨ b = w0.heap.size + 1 ∨ b = w0.heap.size + 2 ∨ b = w0.heap.size + 3) ⟨w0.heap.size + 4, w0.heap.size, w0.heap.size + 1, w0.heap.size + 2, w0.heap.size + 3⟩ 0 R Dk0 := by
 have hal : ∀ i (o : Obj), [Obj.map #[] 0, .map #[] 0, .map #[] 0, .map #[] 0, .cells #[.map (some w0.heap.size), .map (some (w0.heap.size + 1)), .map (some (w0.heap.size + 2)), .map (some (w0.heap.size + 3)), .int .i64 0, .int .i64 0] 80][i]? = some o → (allocs w0 [Obj.map #[] 0, .map #[] 0, .map #[] 0, .map #[] 0, .cells #[.map (some w0.heap.size), .map (some (w0.heap.size + 1)), .map (some (w0.heap.size + 2)), .map (some (w0.heap.size + 3)), .int .i64 0, .int .i64 0] 80]).heap[w0.heap.size + i]? = some o := fun i o h => by
  rw [allocs_heap _ w0 i ((List.getElem?_eq_some_iff.1 h).1)]
  exact h
 show DkM (allocs w0 [Obj.map #[] 0, .map #[] 0, .map #[] 0, .map #[] 0, .cells #[.map (some w0.heap.size), .map (some (w0.heap.size + 1)), .map (some (w0.heap.size + 2)), .map (some (w0.heap.size + 3)), .int .i64 0, .int .i64 0] 80]) _ _ _ _ _
 have hsz := allocs_size [Obj.map #[] 0, .map #[] 0, .map #[] 0, .map #[] 0, .cells #[.map (some w0.heap.size), .map (some (w0.heap.size + 1)), .map (some (w0.heap.size + 2)), .map (some (w0.heap.size + 3)), .int .i64 0, .int .i64 0] 80] w0
 generalize allocs w0 [Obj.map #[] 0, .map #[] 0, .map #[] 0, .map #[] 0, .cells #[.map (some w0.heap.size), .map (some (w0.heap.size + 1)), .map (some (w0.heap.size + 2)), .map (some (w0.heap.size + 3)), .int .i64 0, .int .i64 0] 80] = W at *
 have m0 := hal 0 _ rfl
 have m1 := hal 1 _ rfl
 have m2 := hal 2 _ rfl
 have m3 := hal 3 _ rfl
 have m4 := hal 4 _ rfl
 have mk : ∀ {α : Type} (K : KeyS α) (b : Nat), W.heap[b]? = some (.map #[] 0) → MapH K W b 0 (fun _ => none) := fun K b hb => by
  obtain ⟨D, ⟨es, clock, h1, h3⟩, h2⟩ := MapH.made (K := K) w0
  have h4 := heap_alloc_new w0 (.map #[] 0)
  rw [h1] at h4
  simp only [Option.some.injEq, Obj.map.injEq] at h4
  obtain ⟨rfl, rfl⟩ := h4
  exact ⟨D, ⟨_, _, hb, h3⟩, h2⟩
 refine ⟨fun _ => .slice none 0 0, m4, mk _ _ m0, mk _ _ m1, mk _ _ m2, (mk KyI _ m3).ext fun v => (if_pos rfl).symm, fun v h => absurd rfl h, fun v u h => absurd rfl h, fun v => Nat.le_refl _, fun v r h => (by cases h), DkB.zero R, hR, Int.le_refl _, ⟨Int.le_refl _, Int.le_refl _⟩, by dsimp only; omega, by dsimp only; omega, fun v g h => absurd rfl h, fun b hb => ?_⟩
 simp only [List.length_cons, List.length_nil] at hsz
 omega
/-- in the loop: the desk, the instructions that are done, the boxes -/
structure BlS (R : Int) (kb : Nat) (o1 : Obj) (w0 : World) (S0 : Nat → Prop) (q : Dkb) (c : Nat) (d : Dk) (vO : Value) (LI : List (In × Value)) (l : List In) (wr : World) (S : Nat → Prop) : Prop where
 dk : DkM wr S q c R d
 st : Stp S0 w0 wr S
 own : wr.ownsRow w0.heap.size 40 11 vO LI.length (LI.flatMap inCells)
 is : LI.map Prod.fst = l
 args : ∀ y ∈ LI, wr.ownsRow kb 3 1 y.2 y.1.args.length (rowI y.1.args) ∧ ∀ g, y.2.ownBlock = some g → ¬ S g
 vn : ∀ g, vO.ownBlock = some g → ¬ S g
 b1 : wr.heap[kb]? = some o1
 b2 : wr.heap[kb + 1]? = some (.cells #[.slice none 0 0, .int .i64 0, .int .i64 0, .int .i64 0, .int .i64 0] 43)
 n2 : ¬ S kb ∧ ¬ S (kb + 1)
section
variable {R : Int} {kb : Nat} {o1 : Obj} {w0 : World} {S0 : Nat → Prop} {q : Dkb} {c : Nat} {d : Dk} {vO : Value} {LI : List (In × Value)} {l : List In} {wr w2 : World} {S S2 : Nat → Prop}
theorem BlS.step (h : BlS R kb o1 w0 S0 q c d vO LI l wr S) {c2 : Nat} {d2 : Dk} (hd : DkM w2 S2 q c2 R d2) (p : Stp S wr w2 S2) : BlS R kb o1 w0 S0 q c2 d2 vO LI l w2 S2 := by
 have l1 := (Array.getElem?_eq_some_iff.1 h.b1).1
 have l2 := (Array.getElem?_eq_some_iff.1 h.b2).1
 exact ⟨hd, h.st.trans p, ow_same h.own fun g hg => p.keep g (World.ownsRow.lt h.own g hg).2 (h.vn g hg), h.is, fun y hy => ⟨ow_same (h.args y hy).1 fun g hg => p.keep g (World.ownsRow.lt (h.args y hy).1 g hg).2 ((h.args y hy).2 g hg), fun g hg => p.away (World.ownsRow.lt (h.args y hy).1 g hg).2 ((h.args y hy).2 g hg)⟩,
  fun g hg => p.away (World.ownsRow.lt h.own g hg).2 (h.vn g hg), (p.keep _ l1 h.n2.1).trans h.b1, (p.keep _ l2 h.n2.2).trans h.b2, p.away l1 h.n2.1, p.away l2 h.n2.2⟩
theorem BlS.below (h : BlS R kb o1 w0 S0 q c d vO LI l wr S) (hb : Below wr.heap.size wr w2) : BlS R kb o1 w0 S0 q c d vO LI l w2 S := h.step (h.dk.below hb) (Stp.of_below hb)
theorem BlS.mono (h : BlS R kb o1 w0 S0 q c d vO LI l wr S) {c' : Nat} (hc : c ≤ c') : BlS R kb o1 w0 S0 q c' d vO LI l wr S := ⟨h.dk.mono hc, h.st, h.own, h.is, h.args, h.vn, h.b1, h.b2, h.n2⟩
/-- an instruction more -/
theorem BlS.app (h : BlS R kb o1 w0 S0 q c d vO LI l wr S) {v' va : Value} {x : In} (ha : wr.ownsRow kb 3 1 va x.args.length (rowI x.args)) (hn : ∀ g, va.ownBlock = some g → ¬ S g) (ho : w2.ownsRow w0.heap.size 40 11 v' (LI.length + 1) (LI.flatMap inCells ++ inCells (x, va))) (hg : wr.grownBy w2 vO.ownBlock) (hv : v'.ownBlock = vO.ownBlock ∨ v'.ownBlock = some wr.heap.size)
  (hk : kb + 1 < w0.heap.size) : BlS R kb o1 w0 S0 q c d v' (LI ++ [(x, va)]) (l ++ [x]) w2 S := by
 have l1 := (Array.getElem?_eq_some_iff.1 h.b1).1
 have l2 := (Array.getElem?_eq_some_iff.1 h.b2).1
 have keep : ∀ b, b < wr.heap.size → (∀ g, vO.ownBlock = some g → g ≠ b) → w2.heap[b]? = wr.heap[b]? := fun b hb hne => hg.block b hb fun e => hne b e.symm rfl
 have hvO : ∀ g, vO.ownBlock = some g → w0.heap.size ≤ g := fun g hgb => (World.ownsRow.lt h.own g hgb).1
 have ints : ∀ {va : Value} {n : Nat} {xs : List Value}, wr.ownsRow kb 3 1 va n xs → w2.ownsRow kb 3 1 va n xs := fun hr => ow_same hr fun g hgb => keep g (World.ownsRow.lt hr g hgb).2 fun g' e e2 => by
  subst e2
  rcases ow_apart h.own hr (by decide) with e3 | e3
  ·rw [e3] at hgb; cases hgb
  ·exact e3 (hgb.trans e.symm)
 refine ⟨h.dk.same hg.size fun b hb => keep b (h.dk.lt hb) fun g e e2 => h.vn g e (e2 ▸ hb), ⟨hg.os.trans h.st.os, hg.tape.trans h.st.tape, hg.output.trans h.st.output, Nat.le_trans h.st.size hg.size, fun b hb hs => (keep b (Nat.lt_of_lt_of_le hb h.st.size) fun g e e2 => by have := hvO g e; omega).trans (h.st.keep b hb hs), h.st.sub⟩,
  by simpa using ho, by rw [List.map_append, h.is]; rfl, fun y hy => ?_, fun g e => ?_, (keep kb l1 fun g e e2 => by have := hvO g e; omega).trans h.b1, (keep _ l2 fun g e e2 => by have := hvO g e; omega).trans h.b2, h.n2⟩
 ·rcases List.mem_append.1 hy with hy | hy
  ·exact ⟨ints (h.args y hy).1, (h.args y hy).2⟩
  ·simp only [List.mem_cons, List.not_mem_nil, or_false] at hy
   rw [hy]; exact ⟨ints ha, hn⟩
 ·rcases hv with e2 | e2
  ·exact h.vn g (e2 ▸ e)
  ·rw [e2] at e
   simp only [Option.some.injEq] at e
   subst e
   intro hs
   exact absurd (h.dk.lt hs) (Nat.lt_irrefl _)
end
/-- a row of instructions of the call's own, with all that they read -/
def KvR (B : Nat) (w : World) (v : Value) (l : List In) : Prop := ∃ LI : List (In × Value), LI.map Prod.fst = l ∧ w.ownsRow B 40 11 v LI.length (LI.flatMap inCells) ∧ ∀ y ∈ LI, w.ownsRow B 3 1 y.2 y.1.args.length (rowI y.1.args)
theorem KvR.below {B : Nat} {w w' : World} {v : Value} {l : List In} (h : KvR B w v l) (hb : Below w.heap.size w w') : KvR B w' v l := let ⟨LI, h1, h2, h3⟩ := h; ⟨LI, h1, own_below h2 hb, fun y hy => own_below (h3 y hy) hb⟩
theorem KvR.base {B B' : Nat} {w : World} {v : Value} {l : List In} (h : KvR B w v l) (hb : B' ≤ B) : KvR B' w v l := let ⟨LI, h1, h2, h3⟩ := h; ⟨LI, h1, ow_base h2 hb, fun y hy => ow_base (h3 y hy) hb⟩
/-- .. in any world that keeps what lies from B on -/
theorem KvR.only {B : Nat} {w w' : World} {v : Value} {l : List In} (h : KvR B w v l) (hb : ∀ b, B ≤ b → b < w.heap.size → w'.heap[b]? = w.heap[b]?) : KvR B w' v l := let ⟨LI, h1, h2, h3⟩ := h
 ⟨LI, h1, ow_same h2 fun g hg => hb g (World.ownsRow.lt h2 g hg).1 (World.ownsRow.lt h2 g hg).2, fun y hy => ow_same (h3 y hy) fun g hg => hb g (World.ownsRow.lt (h3 y hy) g hg).1 (World.ownsRow.lt (h3 y hy) g hg).2⟩
theorem KvR.but {B : Nat} {w w' : World} {v : Value} {l : List In} {g : Nat} (h : KvR B w v l) (hb : But g w w') {cs : Array Value} {ty : TypeId} (hc : w.heap[g]? = some (.cells cs ty)) (h1 : 40 ≠ ty) (h2 : 3 ≠ ty) : KvR B w' v l := by
 obtain ⟨LI, e1, e2, e3⟩ := h
 exact ⟨LI, e1, World.ownsRow.kept e2 (but_grownK hb) (.inr (row_not e2 hc h1)), fun y hy => World.ownsRow.kept (e3 y hy) (but_grownK hb) (.inr (row_not (e3 y hy) hc h2))⟩
theorem own_rdI {w : World} {B : Nat} {v : Value} {l : List Int} (h : w.ownsRow B 3 1 v l.length (rowI l)) : RdI w v l := by
 obtain ⟨a, c, e1, e2, e3, e4⟩ := own_rdVs (xs := rowI l) (by rw [show (rowI l).length = l.length by simp [rowI]]; exact h)
 rw [show (rowI l).length = l.length by simp [rowI]] at e1 e2 e4
 refine ⟨a, c, e1, e2, e3, fun i hi => ?_⟩
 obtain ⟨b, o, e5, e6⟩ := e4 i hi
 refine ⟨b, o, e5, ?_⟩
 show w.cell? ⟨b, o + i * 1 + 0, none⟩ = _
 rw [Nat.mul_one, Nat.add_zero, e6]
 simp [rowI, List.getD, hi]
theorem KvR.rd {B : Nat} {w : World} {v : Value} {l : List In} (h : KvR B w v l) : RdIns w v l := by
 obtain ⟨LI, rfl, e2, e3⟩ := h
 exact OwnIn.rd (B := B) ⟨e2, fun y hy => own_rdI (e3 y hy)⟩
/-- what a block's bounds are -/
structure BlOk (R : Int) (b : Bk) : Prop where
 rd : ∀ i ∈ b.ins, RdOk R i
 tk : ∀ i ∈ b.ins, ToOk R i
 al : ∀ i ∈ b.ins, i.args.length ≤ 1000
 len : b.ins.length ≤ 1000
 a : b.a = -1 ∨ 0 ≤ b.a ∧ b.a < R
end Go.Proofs.YtkhfddodmjnecaaDoor
