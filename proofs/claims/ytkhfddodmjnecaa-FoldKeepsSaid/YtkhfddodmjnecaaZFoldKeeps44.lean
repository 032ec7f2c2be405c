/-
 A block of which nothing is reckoned twice (fold.block): the desk just made, the state in the loop.; Functions of words that are one of their operands, or that may swap them; what lies where a word was put. Plain.
-/
import Derived.Test.YtkhfddodmjnecaaZFoldKeeps43
import Derived.Test.YtkhfddodmjnecaaZFoldKeeps32

set_option linter.all false
namespace Go.Proofs.Ytkhfddodmjnecaa
open Go.ChangeShapes Go.WideShapes Go.ChangeAt Go.RowKit Go.Maps
set_option maxHeartbeats 16000000
set_option maxRecDepth 100000
set_option linter.unusedVariables false

theorem vlsL_snoc : ∀ (l : List In) (i : In) (d : Dk), vlsL d (l ++ [i]) = vlsL d l ++ (if (insD (dskL d l) i).1.2 = true then [(insD (dskL d l) i).1.1] else [])
 | [], i, d => by
  by_cases h : (insD d i).1.2 = true <;> simp [vlsL, dskL, h]
 | x :: l, i, d => by
  show vlsL d (x :: (l ++ [i])) = _
  unfold vlsL
  rw [vlsL_snoc l i (insD d x).2]
  split <;> rfl
theorem dskL_snoc : ∀ (l : List In) (i : In) (d : Dk), dskL d (l ++ [i]) = (insD (dskL d l) i).2
 | [], i, d => rfl
 | x :: l, i, d => dskL_snoc l i (insD d x).2
theorem vlsL_len : ∀ (l : List In) (d : Dk), (vlsL d l).length ≤ l.length
 | [], d => Nat.le_refl _
 | x :: l, d => by
  have := vlsL_len l (insD d x).2
  unfold vlsL
  split <;> simp <;> omega
/-- the desk just made -/
theorem DkM.made (w0 : World) (R : Int) (hR : R ≤ 1000000) : DkM (((((w0.alloc (.map #[] 0)).alloc (.map #[] 0)).alloc (.map #[] 0)).alloc (.map #[] 0)).alloc (.cells #[.map (some w0.heap.size), .map (some (w0.heap.size + 1)), .map (some (w0.heap.size + 2)), .map (some (w0.heap.size + 3)), .int .i64 0, .int .i64 0] 191))
  (fun b => b = w0.heap.size + 4 ∨ b = w0.heap.size ∨ b = w0.heap.size + 1 ∨ b = w0.heap.size + 2 ∨ b = w0.heap.size + 3) ⟨w0.heap.size + 4, w0.heap.size, w0.heap.size + 1, w0.heap.size + 2, w0.heap.size + 3⟩ 0 R Dk0 := by
 have hal : ∀ i (o : Obj), [Obj.map #[] 0, .map #[] 0, .map #[] 0, .map #[] 0, .cells #[.map (some w0.heap.size), .map (some (w0.heap.size + 1)), .map (some (w0.heap.size + 2)), .map (some (w0.heap.size + 3)), .int .i64 0, .int .i64 0] 191][i]? = some o → (allocs w0 [Obj.map #[] 0, .map #[] 0, .map #[] 0, .map #[] 0, .cells #[.map (some w0.heap.size), .map (some (w0.heap.size + 1)), .map (some (w0.heap.size + 2)), .map (some (w0.heap.size + 3)), .int .i64 0, .int .i64 0] 191]).heap[w0.heap.size + i]? = some o := fun i o h => by
  rw [allocs_heap _ w0 i ((List.getElem?_eq_some_iff.1 h).1)]
  exact h
 show DkM (allocs w0 [Obj.map #[] 0, .map #[] 0, .map #[] 0, .map #[] 0, .cells #[.map (some w0.heap.size), .map (some (w0.heap.size + 1)), .map (some (w0.heap.size + 2)), .map (some (w0.heap.size + 3)), .int .i64 0, .int .i64 0] 191]) _ _ _ _ _
 have hsz := allocs_size [Obj.map #[] 0, .map #[] 0, .map #[] 0, .map #[] 0, .cells #[.map (some w0.heap.size), .map (some (w0.heap.size + 1)), .map (some (w0.heap.size + 2)), .map (some (w0.heap.size + 3)), .int .i64 0, .int .i64 0] 191] w0
 generalize allocs w0 [Obj.map #[] 0, .map #[] 0, .map #[] 0, .map #[] 0, .cells #[.map (some w0.heap.size), .map (some (w0.heap.size + 1)), .map (some (w0.heap.size + 2)), .map (some (w0.heap.size + 3)), .int .i64 0, .int .i64 0] 191] = W at *
 have m0 := hal 0 _ rfl
 have m1 := hal 1 _ rfl
 have m2 := hal 2 _ rfl
 have m3 := hal 3 _ rfl
 have m4 := hal 4 _ rfl
 have mk : ∀ {α : Type} (K : KeyS α) (b : Nat), W.heap[b]? = some (.map #[] 0) → MapH K W b 0 (fun _ => none) := fun K b hb => by
  obtain ⟨D, ⟨es, clock, h1, h3⟩, h2⟩ := MapH.made (K := K) w0
  have h4 := heap_alloc_new w0 (.map #[] 0)
  rw [h1] at h4
  simp only [Option.some.injEq, Obj.map.injEq] at h4
  obtain ⟨rfl, rfl⟩ := h4
  exact ⟨D, ⟨_, _, hb, h3⟩, h2⟩
 refine ⟨fun _ => .slice none 0 0, m4, mk _ _ m0, mk _ _ m1, mk _ _ m2, (mk KyI _ m3).ext fun v => (if_pos rfl).symm, fun v h => absurd rfl h, fun v u h => absurd rfl h, fun v => Nat.le_refl _, fun v r h => (by cases h), DkB.zero R, hR, Int.le_refl _, ⟨Int.le_refl _, Int.le_refl _⟩, by dsimp only; omega, by dsimp only; omega, fun v g h => absurd rfl h, fun b hb => ?_⟩
 simp only [List.length_cons, List.length_nil] at hsz
 omega
/-- in the loop: the desk, the instructions that are done, the boxes -/
structure BlS (R : Int) (kb : Nat) (o1 : Obj) (w0 : World) (S0 : Nat → Prop) (q : Dkb) (c : Nat) (d : Dk) (vO : Value) (LI : List (In × Value)) (l : List In) (wr : World) (S : Nat → Prop) : Prop where
 dk : DkM wr S q c R d
 st : Stp S0 w0 wr S
 own : wr.ownsRow w0.heap.size 39 11 vO LI.length (LI.flatMap inCells)
 is : LI.map Prod.fst = l
 args : ∀ y ∈ LI, wr.ownsRow 0 3 1 y.2 y.1.args.length (rowI y.1.args) ∧ ∀ g, y.2.ownBlock = some g → ¬ S g
 vn : ∀ g, vO.ownBlock = some g → ¬ S g
 b1 : wr.heap[kb]? = some o1
 b2 : wr.heap[kb + 1]? = some (.cells #[.slice none 0 0, .int .i64 0, .int .i64 0, .int .i64 0, .int .i64 0] 35)
 n2 : ¬ S kb ∧ ¬ S (kb + 1)
section
variable {R : Int} {kb : Nat} {o1 : Obj} {w0 : World} {S0 : Nat → Prop} {q : Dkb} {c : Nat} {d : Dk} {vO : Value} {LI : List (In × Value)} {l : List In} {wr w2 : World} {S S2 : Nat → Prop}
theorem BlS.step (h : BlS R kb o1 w0 S0 q c d vO LI l wr S) {c2 : Nat} {d2 : Dk} (hd : DkM w2 S2 q c2 R d2) (p : Stp S wr w2 S2) : BlS R kb o1 w0 S0 q c2 d2 vO LI l w2 S2 := by
 have l1 := (Array.getElem?_eq_some_iff.1 h.b1).1
 have l2 := (Array.getElem?_eq_some_iff.1 h.b2).1
 exact ⟨hd, h.st.trans p, ow_same h.own fun g hg => p.keep g (World.ownsRow.lt h.own g hg).2 (h.vn g hg), h.is, fun y hy => ⟨ow_same (h.args y hy).1 fun g hg => p.keep g (World.ownsRow.lt (h.args y hy).1 g hg).2 ((h.args y hy).2 g hg), fun g hg => p.away (World.ownsRow.lt (h.args y hy).1 g hg).2 ((h.args y hy).2 g hg)⟩,
  fun g hg => p.away (World.ownsRow.lt h.own g hg).2 (h.vn g hg), (p.keep _ l1 h.n2.1).trans h.b1, (p.keep _ l2 h.n2.2).trans h.b2, p.away l1 h.n2.1, p.away l2 h.n2.2⟩
theorem BlS.below (h : BlS R kb o1 w0 S0 q c d vO LI l wr S) (hb : Below wr.heap.size wr w2) : BlS R kb o1 w0 S0 q c d vO LI l w2 S := h.step (h.dk.below hb) (Stp.of_below hb)
theorem BlS.mono (h : BlS R kb o1 w0 S0 q c d vO LI l wr S) {c' : Nat} (hc : c ≤ c') : BlS R kb o1 w0 S0 q c' d vO LI l wr S := ⟨h.dk.mono hc, h.st, h.own, h.is, h.args, h.vn, h.b1, h.b2, h.n2⟩
/-- an instruction more -/
theorem BlS.app (h : BlS R kb o1 w0 S0 q c d vO LI l wr S) {v' va : Value} {x : In} (ha : wr.ownsRow 0 3 1 va x.args.length (rowI x.args)) (hn : ∀ g, va.ownBlock = some g → ¬ S g) (ho : w2.ownsRow w0.heap.size 39 11 v' (LI.length + 1) (LI.flatMap inCells ++ inCells (x, va))) (hg : wr.grownBy w2 vO.ownBlock) (hv : v'.ownBlock = vO.ownBlock ∨ v'.ownBlock = some wr.heap.size)
  (hk : kb + 1 < w0.heap.size) : BlS R kb o1 w0 S0 q c d v' (LI ++ [(x, va)]) (l ++ [x]) w2 S := by
 have l1 := (Array.getElem?_eq_some_iff.1 h.b1).1
 have l2 := (Array.getElem?_eq_some_iff.1 h.b2).1
 have keep : ∀ b, b < wr.heap.size → (∀ g, vO.ownBlock = some g → g ≠ b) → w2.heap[b]? = wr.heap[b]? := fun b hb hne => hg.block b hb fun e => hne b e.symm rfl
 have hvO : ∀ g, vO.ownBlock = some g → w0.heap.size ≤ g := fun g hgb => (World.ownsRow.lt h.own g hgb).1
 have ints : ∀ {va : Value} {n : Nat} {xs : List Value}, wr.ownsRow 0 3 1 va n xs → w2.ownsRow 0 3 1 va n xs := fun hr => ow_same hr fun g hgb => keep g (World.ownsRow.lt hr g hgb).2 fun g' e e2 => by
  subst e2
  rcases ow_apart h.own hr (by decide) with e3 | e3
  ·rw [e3] at hgb; cases hgb
  ·exact e3 (hgb.trans e.symm)
 refine ⟨h.dk.same hg.size fun b hb => keep b (h.dk.lt hb) fun g e e2 => h.vn g e (e2 ▸ hb), ⟨hg.os.trans h.st.os, hg.tape.trans h.st.tape, hg.output.trans h.st.output, Nat.le_trans h.st.size hg.size, fun b hb hs => (keep b (Nat.lt_of_lt_of_le hb h.st.size) fun g e e2 => by have := hvO g e; omega).trans (h.st.keep b hb hs), h.st.sub⟩,
  by simpa using ho, by rw [List.map_append, h.is]; rfl, fun y hy => ?_, fun g e => ?_, (keep kb l1 fun g e e2 => by have := hvO g e; omega).trans h.b1, (keep _ l2 fun g e e2 => by have := hvO g e; omega).trans h.b2, h.n2⟩
 ·rcases List.mem_append.1 hy with hy | hy
  ·exact ⟨ints (h.args y hy).1, (h.args y hy).2⟩
  ·simp only [List.mem_cons, List.not_mem_nil, or_false] at hy
   rw [hy]; exact ⟨ints ha, hn⟩
 ·rcases hv with e2 | e2
  ·exact h.vn g (e2 ▸ e)
  ·rw [e2] at e
   simp only [Option.some.injEq] at e
   subst e
   intro hs
   exact absurd (h.dk.lt hs) (Nat.lt_irrefl _)
end
/-- a row of instructions of the call's own, with all that they read -/
def KvR (w : World) (v : Value) (l : List In) : Prop := ∃ LI : List (In × Value), LI.map Prod.fst = l ∧ w.ownsRow 0 39 11 v LI.length (LI.flatMap inCells) ∧ ∀ y ∈ LI, w.ownsRow 0 3 1 y.2 y.1.args.length (rowI y.1.args)
theorem KvR.below {w w' : World} {v : Value} {l : List In} (h : KvR w v l) (hb : Below w.heap.size w w') : KvR w' v l := let ⟨LI, h1, h2, h3⟩ := h; ⟨LI, h1, own_below h2 hb, fun y hy => own_below (h3 y hy) hb⟩
theorem KvR.but {w w' : World} {v : Value} {l : List In} {g : Nat} (h : KvR w v l) (hb : But g w w') {cs : Array Value} {ty : TypeId} (hc : w.heap[g]? = some (.cells cs ty)) (h1 : 39 ≠ ty) (h2 : 3 ≠ ty) : KvR w' v l := by
 obtain ⟨LI, e1, e2, e3⟩ := h
 exact ⟨LI, e1, World.ownsRow.kept e2 (but_grownK hb) (.inr (row_not e2 hc h1)), fun y hy => World.ownsRow.kept (e3 y hy) (but_grownK hb) (.inr (row_not (e3 y hy) hc h2))⟩
theorem own_rdI {w : World} {B : Nat} {v : Value} {l : List Int} (h : w.ownsRow B 3 1 v l.length (rowI l)) : RdI w v l := by
 obtain ⟨a, c, e1, e2, e3, e4⟩ := own_rdVs (xs := rowI l) (by rw [show (rowI l).length = l.length by simp [rowI]]; exact h)
 rw [show (rowI l).length = l.length by simp [rowI]] at e1 e2 e4
 refine ⟨a, c, e1, e2, e3, fun i hi => ?_⟩
 obtain ⟨b, o, e5, e6⟩ := e4 i hi
 refine ⟨b, o, e5, ?_⟩
 show w.cell? ⟨b, o + i * 1 + 0, none⟩ = _
 rw [Nat.mul_one, Nat.add_zero, e6]
 simp [rowI, List.getD, hi]
theorem KvR.rd {w : World} {v : Value} {l : List In} (h : KvR w v l) : RdIns w v l := by
 obtain ⟨LI, rfl, e2, e3⟩ := h
 exact OwnIn.rd (B := 0) ⟨e2, fun y hy => own_rdI (e3 y hy)⟩
/-- what a block's bounds are -/
structure BlOk (R : Int) (b : Bk) : Prop where
 rd : ∀ i ∈ b.ins, RdOk R i
 tk : ∀ i ∈ b.ins, ToOk R i
 al : ∀ i ∈ b.ins, i.args.length ≤ 1000
 len : b.ins.length ≤ 1000
 a : b.a = -1 ∨ 0 ≤ b.a ∧ b.a < R
end Go.Proofs.Ytkhfddodmjnecaa

set_option linter.all false
namespace Go.Proofs.Ytkhfddodmjnecaa
set_option linter.unusedVariables false

theorem bits_comm (k : IntKind) (x y : Int) : bits .and k x y = bits .and k y x ∧ bits .or k x y = bits .or k y x ∧ bits .xor k x y = bits .xor k y x := by
 refine ⟨?_, ?_, ?_⟩
 ·show k.wrap ((BitVec.ofInt k.bits x &&& BitVec.ofInt k.bits y).toNat : Int) = k.wrap ((BitVec.ofInt k.bits y &&& BitVec.ofInt k.bits x).toNat : Int)
  rw [BitVec.and_comm]
 ·show k.wrap ((BitVec.ofInt k.bits x ||| BitVec.ofInt k.bits y).toNat : Int) = k.wrap ((BitVec.ofInt k.bits y ||| BitVec.ofInt k.bits x).toNat : Int)
  rw [BitVec.or_comm]
 ·show k.wrap ((BitVec.ofInt k.bits x ^^^ BitVec.ofInt k.bits y).toNat : Int) = k.wrap ((BitVec.ofInt k.bits y ^^^ BitVec.ofInt k.bits x).toNat : Int)
  rw [BitVec.xor_comm]
theorem word_back (x : Int) (h : 0 ≤ x ∧ x < 4294967296) : IntKind.u32.wrap ((BitVec.ofInt 32 x).toNat : Int) = x := by
 have e : ((BitVec.ofInt 32 x).toNat : Int) = x := by
  rw [BitVec.toNat_ofInt]
  rw [Int.toNat_of_nonneg (Int.emod_nonneg _ (by decide))]
  exact Int.emod_eq_of_lt h.1 h.2
 rw [e]
 show x % 4294967296 = x
 exact Int.emod_eq_of_lt h.1 h.2
theorem bits_zero (x : Int) (h : 0 ≤ x ∧ x < 4294967296) : bits .or .u32 x 0 = x ∧ bits .xor .u32 x 0 = x := by
 constructor
 ·show IntKind.u32.wrap ((BitVec.ofInt 32 x ||| BitVec.ofInt 32 0).toNat : Int) = x
  rw [show BitVec.ofInt 32 0 = 0#32 from by decide, BitVec.or_zero]
  exact word_back x h
 ·show IntKind.u32.wrap ((BitVec.ofInt 32 x ^^^ BitVec.ofInt 32 0).toNat : Int) = x
  rw [show BitVec.ofInt 32 0 = 0#32 from by decide, BitVec.xor_zero]
  exact word_back x h
theorem bits_self (x : Int) (h : 0 ≤ x ∧ x < 4294967296) : bits .and .u32 x x = x ∧ bits .or .u32 x x = x ∧ bits .xor .u32 x x = 0 := by
 refine ⟨?_, ?_, ?_⟩
 ·show IntKind.u32.wrap ((BitVec.ofInt 32 x &&& BitVec.ofInt 32 x).toNat : Int) = x
  rw [BitVec.and_self]; exact word_back x h
 ·show IntKind.u32.wrap ((BitVec.ofInt 32 x ||| BitVec.ofInt 32 x).toNat : Int) = x
  rw [BitVec.or_self]; exact word_back x h
 ·show IntKind.u32.wrap ((BitVec.ofInt 32 x ^^^ BitVec.ofInt 32 x).toNat : Int) = 0
  rw [BitVec.xor_self]; decide
theorem fnF_swap {fn : Int} (h : swapsF fn = true) (a b : Int) : fnF fn a b = fnF fn b a := by
 unfold swapsF at h
 have h := of_decide_eq_true h
 have hc := bits_comm .u32 a b
 rcases h with rfl | rfl | rfl | rfl | rfl | rfl | rfl
 ·show (a + b) % 4294967296 = (b + a) % 4294967296; rw [Int.add_comm]
 ·show (a * b) % 4294967296 = (b * a) % 4294967296; rw [Int.mul_comm]
 ·show bits .and .u32 a b = bits .and .u32 b a; exact hc.1
 ·show bits .or .u32 a b = bits .or .u32 b a; exact hc.2.1
 ·show bits .xor .u32 a b = bits .xor .u32 b a; exact hc.2.2
 ·show bitF (a == b) = bitF (b == a); rw [show (a == b) = (b == a) from Bool.eq_iff_iff.2 (by simp only [beq_iff_eq]; exact eq_comm)]
 ·show bitF (a != b) = bitF (b != a); rw [show (a != b) = (b != a) from Bool.eq_iff_iff.2 (by simp only [bne_iff_ne]; exact ne_comm)]
theorem word_mod {a : Int} (h : 0 ≤ a ∧ a < 4294967296) : a % 4294967296 = a := Int.emod_eq_of_lt h.1 h.2
theorem sg_modW {a : Int} (h : 0 ≤ a ∧ a < 4294967296) : sg a % 4294967296 = a := by unfold sg; split <;> omega
/-- by a number on the right a function is its left operand -/
theorem fnF_zero {fn : Int} (h : fn = 1 ∨ fn = 2 ∨ fn = 7 ∨ fn = 8 ∨ fn = 9 ∨ fn = 10) {a : Int} (ha : 0 ≤ a ∧ a < 4294967296) : fnF fn a 0 = a := by
 have hb := bits_zero a ha
 rcases h with rfl | rfl | rfl | rfl | rfl | rfl
 ·show (a + 0) % 4294967296 = a; rw [Int.add_zero]; exact word_mod ha
 ·show (a - 0) % 4294967296 = a; rw [Int.sub_zero]; exact word_mod ha
 ·show bits .or .u32 a 0 = a; exact hb.1
 ·show bits .xor .u32 a 0 = a; exact hb.2
 ·show shl32 a 0 = a
  unfold shl32
  rw [show ((2 : Int) ^ ((0 : Int) % 32).toNat) = 1 from by decide, Int.mul_one]; exact word_mod ha
 ·show sar32 a 0 = a
  unfold sar32
  rw [show ((2 : Int) ^ ((0 : Int) % 32).toNat) = 1 from by decide, Int.ediv_one]; exact sg_modW ha
theorem fnF_one {fn : Int} (h : fn = 3 ∨ fn = 4) {a : Int} (ha : 0 ≤ a ∧ a < 4294967296) : fnF fn a 1 = a := by
 rcases h with rfl | rfl
 ·show (a * 1) % 4294967296 = a; rw [Int.mul_one]; exact word_mod ha
 ·show divS a 1 = a
  unfold divS
  rw [if_neg (by decide), show sg 1 = 1 from by decide, Int.tdiv_one]; exact sg_modW ha
theorem fnF_left {fn : Int} (h : fn = 1 ∨ fn = 7 ∨ fn = 8) {b : Int} (hb : 0 ≤ b ∧ b < 4294967296) : fnF fn 0 b = b := by
 rw [fnF_swap (by unfold swapsF; exact decide_eq_true (by omega))]
 exact fnF_zero (by omega) hb
theorem fnF_left1 {b : Int} (hb : 0 ≤ b ∧ b < 4294967296) : fnF 3 1 b = b := by
 rw [fnF_swap (by decide)]
 exact fnF_one (.inl rfl) hb
theorem fnF_both {fn : Int} (h : fn = 6 ∨ fn = 7) {a : Int} (ha : 0 ≤ a ∧ a < 4294967296) : fnF fn a a = a := by
 have hb := bits_self a ha
 rcases h with rfl | rfl
 ·exact hb.1
 ·exact hb.2.1
theorem fnF_none {fn : Int} (h : fn = 2 ∨ fn = 8) {a : Int} (ha : 0 ≤ a ∧ a < 4294967296) : fnF fn a a = 0 := by
 rcases h with rfl | rfl
 ·show (a - a) % 4294967296 = 0; rw [Int.sub_self]; rfl
 ·exact (bits_self a ha).2.2
theorem storeP_get (mem : List Int) (n : Nat) (v : Int) : ∀ k j, j < k → n + j < mem.length → (storeP mem n v k).getD (n + j) 0 = v / 256 ^ j % 256
 | 0, j, h, _ => absurd h (Nat.not_lt_zero _)
 | k + 1, j, h, hl => by
  rw [storeP]
  simp only [List.getD, List.getElem?_set, storeP_len]
  by_cases e : k = j
  ·subst e
   rw [if_pos rfl, if_pos hl]; rfl
  ·rw [if_neg (by omega)]
   exact storeP_get mem n v k j (by omega) hl
/-- a word that was put is what lies there -/
theorem load_store (mem : List Int) (n : Nat) (v : Int) (hv : 0 ≤ v ∧ v < 4294967296) (hl : n + 4 ≤ mem.length) : loadP (storeP mem n v 4) n 4 = v := by
 have g := fun j (h : j < 4) => storeP_get mem n v 4 j h (by omega)
 show ((((0 + _ * 256 ^ 0) + _ * 256 ^ 1) + _ * 256 ^ 2) + _ * 256 ^ 3) = v
 rw [g 0 (by decide), g 1 (by decide), g 2 (by decide), g 3 (by decide)]
 rw [show (256 : Int) ^ 0 = 1 from rfl, show (256 : Int) ^ 1 = 256 from rfl, show (256 : Int) ^ 2 = 65536 from by decide, show (256 : Int) ^ 3 = 16777216 from by decide]
 omega
end Go.Proofs.Ytkhfddodmjnecaa
