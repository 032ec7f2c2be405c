/-
 Contracts of flow's Order, Back and Reach.; Whether a register is live at a place of a block, by going all ways on; how this search lies in memory.; Contract of the reference's Live.; Contract of the statements' same.; Contract of flow's Reach.; Contract of flow's Reach.; The marking of live registers finds what going all ways on finds (plain lists, no program).; What an instruction reads, sets and stores, in plain data.; What few modules are like: plain.; How the reference's walk lies in memory, and what its stores and appends make of it.
-/
import Derived.Test.YtkhfddodmjnecaaZFoldConsts23
import Derived.Test.YtkhfddodmjnecaaZFoldConsts04
import Derived.Test.YtkhfddodmjnecaaZFoldConsts17
import Derived.Test.YtkhfddodmjnecaaZFoldConsts05

set_option linter.all false
namespace Go.Proofs.Ytkhfddodmjnecaa
open Go.ChangeShapes Go.WideShapes Go.ChangeAt Go.RowKit
set_option maxHeartbeats 2000000
set_option maxRecDepth 20000

theorem ownsRow_base {w : World} {B B' n s : Nat} {e : TypeId} {v : Value} {xs : List Value} (h : w.ownsRow B e s v n xs) (hB : B' ≤ B) : w.ownsRow B' e s v n xs := by
 obtain ⟨h1, h2 | ⟨g, cap, cur, h3, hb, r⟩⟩ := h
 ·exact ⟨h1, .inl h2⟩
 ·exact ⟨h1, .inr ⟨g, cap, cur, h3, Nat.le_trans hB hb, r⟩⟩
theorem order_c (p : Pr) (V : Value) (w : World) (hP : PrV w V p) (hlen : p.blks.length ≤ 1000000) :
  Calls Try.prog 106 #[V] w (RetI w (wkD p).ord.reverse) := by
 have EW : Hid (∀ o, Calls Try.prog 138 #[V] (w.alloc o) (WkR (w.alloc o) p)) := fun o => walked_c p V _ (hP.ext (Ext.alloc w o)) hlen
 obtain ⟨nm, vo, vb, rfl, -, a, c, rfl, -, -, -⟩ := hP
 go_enter Try.func106, Try.ntmps106
 go_wp2_with (go_at_call 138; refine (EW.out _).mono ?_; rintro e w1 ⟨bw, bs, B, ov, bv, tv, hd, s, rfl, M, ho, hb, hr⟩; have M := Lib.hid M; have q7 : w1.cell? ⟨bw, 7, none⟩ = some ov := (M.out.wk.cellAt 7 (by decide)).trans (by rw [List.getElem?_append_right (by rw [M.out.hd6]; decide), M.out.hd6]; rfl))
 go_ret
 refine ⟨_, rfl, ?_, ?_⟩
 ·rw [← ho]
  exact ownsRow_base M.out.ord (Nat.le_trans (by simp) M.out.pB)
 ·exact (below_alloc w _).trans (M.out.below.mono (by simp))
end Go.Proofs.Ytkhfddodmjnecaa

set_option linter.all false
namespace Go.Proofs.Ytkhfddodmjnecaa
open Go.ChangeShapes Go.WideShapes Go.ChangeAt Go.RowKit
set_option maxHeartbeats 2000000
set_option maxRecDepth 20000

/-- the search, with the blocks that are still to be gone into -/
def lvQ (p : Pr) (r : Int) : Nat → List Bool → List Int → Bool
 | 0, _, _ => false
 | _ + 1, _, [] => false
 | f + 1, seen, b :: q =>
  if seen.getD b.toNat false = true then lvQ p r f seen q
  else if withinB (p.blks.getD b.toNat default) 0 r = 1 then true
  else if withinB (p.blks.getD b.toNat default) 0 r = 0 then lvQ p r f (seen.set b.toNat true) (q ++ outsP p b.toNat)
  else lvQ p r f (seen.set b.toNat true) q
/-- how far the search has come -/
structure LvQ (p : Pr) (r : Int) (R : Bool) (f : Nat) (seen : List Bool) (todo : List Int) (k : Nat) : Prop where
 res : lvQ p r f seen (todo.drop k) = R
 le : k ≤ todo.length
 len : seen.length = p.blks.length
 fuel : todo.length - k + 3 * seen.count false ≤ f
 room : todo.length + 2 * seen.count false ≤ 2 + 2 * p.blks.length
 ins : ∀ t ∈ todo, 0 ≤ t ∧ t < p.blks.length
theorem LvQ.start (p : Pr) (r : Int) (n : Nat) : LvQ p r (lvQ p r (2 + 3 * p.blks.length) (List.replicate p.blks.length false) (outsP p n)) (2 + 3 * p.blks.length) (List.replicate p.blks.length false) (outsP p n) 0 := by
 have := outsP_len p n
 refine ⟨rfl, by omega, by simp, ?_, ?_, fun t ht => outsP_mem ht⟩
 ·simp [List.count_replicate_self]; omega
 ·simp [List.count_replicate_self]; omega
section
variable {p : Pr} {r : Int} {R : Bool} {f : Nat} {seen : List Bool} {todo : List Int} {k : Nat}
theorem LvQ.done (h : LvQ p r R f seen todo k) (hk : ¬ k < todo.length) : R = false := by
 have h1 := h.res
 rw [List.drop_eq_nil_of_le (by omega)] at h1
 rw [← h1]
 cases f <;> rfl
theorem LvQ.cons (h : LvQ p r R f seen todo k) (hk : k < todo.length) : ∃ f', f = f' + 1 ∧ (0 ≤ todo.getD k 0 ∧ todo.getD k 0 < p.blks.length) ∧ lvQ p r (f' + 1) seen (todo.getD k 0 :: todo.drop (k + 1)) = R := by
 have h1 := h.fuel
 refine ⟨f - 1, by omega, h.ins _ (by simp [List.getD, hk]), ?_⟩
 have h2 := h.res
 rw [List.drop_eq_getElem_cons hk] at h2
 rw [show f - 1 + 1 = f by omega]
 simpa [List.getD, hk] using h2
theorem LvQ.old (h : LvQ p r R f seen todo k) (hk : k < todo.length) (hs : seen.getD (todo.getD k 0).toNat false = true) : ∃ f', f' < f ∧ LvQ p r R f' seen todo (k + 1) := by
 obtain ⟨f', rfl, -, h1⟩ := h.cons hk
 have h2 := h.fuel
 unfold lvQ at h1
 rw [if_pos hs] at h1
 exact ⟨f', Nat.lt_succ_self _, h1, hk, h.len, by omega, h.room, h.ins⟩
theorem LvQ.yes (h : LvQ p r R f seen todo k) (hk : k < todo.length) (hs : seen.getD (todo.getD k 0).toNat false = false) (hw : withinB (p.blks.getD (todo.getD k 0).toNat default) 0 r = 1) : R = true := by
 obtain ⟨f', rfl, -, h1⟩ := h.cons hk
 unfold lvQ at h1
 rw [if_neg (by rw [hs]; decide), if_pos hw] at h1
 exact h1.symm
end

/-- the search in memory -/
structure LQ (W0 w : World) (gs B n : Nat) (seen : List Bool) (tv : Value) (todo : List Int) : Prop where
 below : Below W0.heap.size W0 w
 row : RowB w gs n n seen
 own : OwnI w B tv todo
 g0 : W0.heap.size ≤ gs
 gB : gs < B
 Bw : B ≤ w.heap.size
section
variable {W0 w : World} {gs B n : Nat} {seen : List Bool} {tv : Value} {todo : List Int}
theorem LQ.grow {w' : World} (h : LQ W0 w gs B n seen tv todo) (hb : Below w.heap.size w w') : LQ W0 w' gs B n seen tv todo := by
 have hg : w.grownBy w' none := ⟨hb.os, hb.tape, hb.output, hb.size, fun k hk _ => hb.block k hk⟩
 have h1 := h.g0
 have h2 := h.gB
 have h3 := h.Bw
 exact ⟨h.below.trans (hb.mono (by omega)), h.row.below hb, World.ownsRow.kept h.own hg (by cases tv.ownBlock <;> simp), h.g0, h.gB, Nat.le_trans h.Bw hb.size⟩
theorem LQ.outs {w1 : World} {v : Value} {l : List Int} (h : LQ W0 w gs B n seen tv todo) (hr : RdF w1 w.heap.size v l) : OutsAt w1 B tv (.slice none 0 0) (.slice none 0 0) v l := by
 obtain ⟨⟨a, c, rfl, h2, h3, h4⟩, hf⟩ := hr
 refine ⟨a, c, rfl, h2, h3, fun i hi => ?_⟩
 obtain ⟨b, o, rfl, hc⟩ := h4 i hi
 have hb : w.heap.size ≤ b := hf _ _ _ rfl
 refine ⟨b, o, rfl, Nat.le_trans h.Bw hb, fun e => ?_, by simp [Value.ownBlock], by simp [Value.ownBlock], by simpa using hc⟩
 have := (World.ownsRow.lt h.own b e).2
 omega
theorem LQ.set (h : LQ W0 w gs B n seen tv todo) (i : Nat) : LQ W0 (w.setCell ⟨gs, i, none⟩ (.bool true)) gs B n (seen.set i true) tv todo := by
 have hg : w.grownBy (w.setCell ⟨gs, i, none⟩ (.bool true)) (some gs) := ⟨rfl, rfl, rfl, by simp, fun k _ hk => Below.heap_setCell w ⟨gs, i, none⟩ _ k (fun e => hk (by rw [show k = gs from e]))⟩
 exact ⟨h.below.setCell h.g0 _, OwnB.set h.row i true, World.ownsRow.kept h.own hg (ne_of (row_far h.own h.gB)), h.g0, h.gB, by simpa using h.Bw⟩
theorem LQ.app {w' : World} {tv' : Value} {x : Int} (h : LQ W0 w gs B n seen tv todo) (hg : w.grownBy w' tv.ownBlock) (ho : w'.ownsRow B 3 1 tv' (todo.length + 1) (todo.map (Value.int .i64) ++ [.int .i64 x])) : LQ W0 w' gs B n seen tv' (todo ++ [x]) := by
 have fr : ∀ b, tv.ownBlock = some b → B ≤ b := fun b e => (World.ownsRow.lt h.own b e).1
 have h1 := h.g0
 have h2 := h.gB
 refine ⟨grown_belG h.below (Nat.le_trans (by omega) h.Bw) hg (fun b e => by have := fr b e; omega), World.ownsRow.kept h.row hg (.inr (fun e => by have := fr gs e.symm; omega)), ?_, h.g0, h.gB, Nat.le_trans h.Bw hg.size⟩
 unfold OwnI
 simpa using ho
end
end Go.Proofs.Ytkhfddodmjnecaa

set_option linter.all false
namespace Go.Proofs.Ytkhfddodmjnecaa
open Go.ChangeShapes Go.WideShapes Go.ChangeAt Go.RowKit
set_option maxHeartbeats 2000000
set_option maxRecDepth 20000

end Go.Proofs.Ytkhfddodmjnecaa

set_option linter.all false
namespace Go.Proofs.Ytkhfddodmjnecaa
open Go.ChangeShapes Go.WideShapes Go.ChangeAt Go.RowKit
set_option maxHeartbeats 2000000
set_option maxRecDepth 20000

end Go.Proofs.Ytkhfddodmjnecaa

set_option linter.all false
namespace Go.Proofs.Ytkhfddodmjnecaa
open Go.ChangeShapes Go.WideShapes Go.ChangeAt Go.RowKit
set_option maxHeartbeats 2000000
set_option maxRecDepth 20000

/-- numbers of blocks that there are -/
def Blks (p : Pr) (l : List Int) : Prop := ∀ t ∈ l, 0 ≤ t ∧ t < (p.blks.length : Int)
theorem foldl_ord (p : Pr) (f : Nat) (n : Int) (ih : ∀ t s, (0 ≤ t ∧ t < (p.blks.length : Int)) → Blks p s.ord → Blks p (rI p f t s).ord) : ∀ (l : List Int) (s : S3), Blks p l → Blks p s.ord → Blks p (l.foldl (hI p f n) s).ord
 | [], _, _, hs => hs
 | t :: l, s, hl, hs => by
  rw [List.foldl_cons]
  refine foldl_ord p f n ih l _ (fun x hx => hl x (List.mem_cons_of_mem _ hx)) ?_
  unfold hI
  split
  ·exact hs
  ·split
   ·exact ih t s (hl t List.mem_cons_self) hs
   ·exact hs
theorem rI_ord (p : Pr) : ∀ (f : Nat) (n : Int) (s : S3), (0 ≤ n ∧ n < (p.blks.length : Int)) → Blks p s.ord → Blks p (rI p f n s).ord
 | 0, _, _, _, hs => hs
 | f + 1, n, s, hn, hs => by
  rw [rI_succ]
  have := foldl_ord p f n (rI_ord p f) (outsP p n.toNat) (s.enter n) (fun t ht => outsP_mem ht) hs
  intro t ht
  rcases List.mem_append.1 ht with ht | ht
  ·exact this t ht
  ·rw [List.mem_singleton.1 ht]; exact hn
theorem wkD_ord (p : Pr) : Blks p (wkD p).ord := by
 rcases Nat.eq_zero_or_pos p.blks.length with h0 | h0
 ·unfold wkD
  rw [h0]
  intro t ht
  cases ht
 ·exact rI_ord p _ 0 _ (by omega) (fun t ht => by cases ht)
/-- which blocks are reached -/
def reachP (p : Pr) : List Bool := marksB (List.replicate p.blks.length false) (wkD p).ord.reverse
end Go.Proofs.Ytkhfddodmjnecaa

set_option linter.all false
namespace Go.Proofs.Ytkhfddodmjnecaa
open Go.ChangeShapes Go.WideShapes Go.ChangeAt Go.RowKit
set_option maxHeartbeats 2000000
set_option maxRecDepth 20000

end Go.Proofs.Ytkhfddodmjnecaa

set_option linter.all false
namespace Go.Proofs.Ytkhfddodmjnecaa
open Go Go.RowKit
/-- live at the start of a block, by all ways on -/
def LvS (p : Pr) (r : Int) (n : Nat) : Prop :=
 ∀ S : Nat → Prop, (∀ n, withinB (p.blks.getD n default) 0 r = 1 → S n) → (∀ n t, withinB (p.blks.getD n default) 0 r = 0 → t ∈ outsP p n → S t.toNat → S n) → S n
theorem LvS.on {p : Pr} {r : Int} (n : Nat) (t : Int) (h : withinB (p.blks.getD n default) 0 r = 0) (ht : t ∈ outsP p n) (h' : LvS p r t.toNat) : LvS p r n := fun S h1 h2 => h2 n t h ht (h' S h1 h2)
theorem getD_setb (l : List Bool) (i j : Nat) (h : i < l.length) : (l.set i true).getD j false = if j = i then true else l.getD j false := by
 simp only [List.getD, List.getElem?_set]
 by_cases e : i = j
 ·subst e; simp [h]
 ·simp [e, Ne.symm e]
theorem setB_get (l : List Bool) (x : Int) (is : Bool) (r : Nat) (h : r < l.length) : (setB l x is).getD r false = if x = r then is else l.getD r false := by
 unfold setB
 split
 ·simp only [List.getD, List.getElem?_set]
  by_cases e : x.toNat = r
  ·rw [if_pos e, if_pos (by omega), if_pos (by omega)]; rfl
  ·rw [if_neg e, if_neg (by omega)]
 ·rw [if_neg (by omega)]
theorem marksB_get (l : List Bool) (rs : List Int) (r : Nat) (h : r < l.length) : (marksB l rs).getD r false = (l.getD r false || hasL rs r) := by
 unfold marksB
 induction rs generalizing l with
 | nil => simp [hasL]
 | cons x rs ih =>
  rw [List.foldl_cons, ih _ (by rw [setB_len]; exact h), setB_get _ _ _ _ h]
  unfold hasL
  rw [List.contains_cons]
  by_cases e : x = r
  ·subst e; simp
  ·rw [if_neg e, show ((r : Int) == x) = false from beq_eq_false_iff_ne.2 (Ne.symm e), Bool.false_or]
end Go.Proofs.Ytkhfddodmjnecaa

set_option linter.all false
namespace Go.Proofs.Ytkhfddodmjnecaa
set_option linter.unusedVariables false

theorem ops12 {m : Md} {p : Pr} {i : In} (h : okI m p i = true) : 1 ≤ i.op ∧ i.op ≤ 12 := by
 unfold okI at h
 simp only [Bool.and_eq_true, decide_eq_true_eq] at h
 exact ⟨h.1.1, h.1.2.1⟩
theorem okI_regs {m : Md} {p : Pr} {i : In} (h : okI m p i = true) (h9 : i.op ≠ 9) : regF p i.d (i.op != 6 && (i.op != 10 && i.op != 12)) = true ∧ regF p i.a (readsA i.op) = true ∧ regF p i.b (readsB i.op) = true ∧ moreF m p i = true := by
 unfold okI at h
 simp only [Bool.and_eq_true] at h
 have h := h.2
 rw [if_neg h9] at h
 simp only [Bool.and_eq_true] at h
 exact ⟨h.1.1, h.1.2.1, h.1.2.2, h.2⟩
theorem regF_in {p : Pr} {r : Int} (h : regF p r true = true) : 0 ≤ r ∧ r < p.regs := by unfold regF at h; simpa using h
theorem regF_may {p : Pr} {r : Int} {b : Bool} (h : regF p r b = true) : r = -1 ∨ 0 ≤ r ∧ r < p.regs := by
 cases b
 ·left; unfold regF at h; simpa using h
 ·exact .inr (regF_in h)
/-- what it sets is in its place -/
theorem okI_d {m : Md} {p : Pr} {i : In} (h : okI m p i = true) (hd : i.op ≠ 6 ∧ i.op ≠ 10 ∧ i.op ≠ 12 ∧ i.op ≠ 9) : 0 ≤ i.d ∧ i.d < p.regs := by
 have h1 := (okI_regs h (by omega)).1
 have e : (i.op != 6 && (i.op != 10 && i.op != 12)) = true := by simp; omega
 rw [e] at h1
 exact regF_in h1
/-- an instruction's outcome by what it sets -/
theorem insM_shape {m : Md} {inp : List Int} {p : Pr} {low : Int} {i : In} {regs : List Int} {s : Oc} {r : List Int × Oc} (hi : 1 ≤ i.op ∧ i.op ≤ 12 ∧ i.op ≠ 9) (h : insM m inp p low i regs s = some r) :
  (defI i = -1 ∧ r.1 = regs ∨ defI i = i.d ∧ i.op ≠ 6 ∧ i.op ≠ 10 ∧ i.op ≠ 12 ∧ ∃ v, r.1 = regs.set i.d.toNat v) ∧ r.2.exit = s.exit ∧ r.2.e = s.e ∧
  (i.op = 6 ∧ placeF (addrM regs i) i.size = true ∧ r.2 = { s with mem := storeP s.mem (addrM regs i - 268435456).toNat (rg regs i.b) i.size.toNat } ∨ i.op ≠ 6 ∧ r.2.mem = s.mem) ∧
  (i.op ≠ 10 → r.2.out = s.out) ∧ (i.op ≠ 11 → r.2.ins = s.ins) := by
 unfold insM at h
 obtain ⟨h1, h2, h9⟩ := hi
 have hop : i.op = 1 ∨ i.op = 2 ∨ i.op = 3 ∨ i.op = 4 ∨ i.op = 5 ∨ i.op = 6 ∨ i.op = 7 ∨ i.op = 8 ∨ i.op = 10 ∨ i.op = 11 ∨ i.op = 12 := by omega
 have D : ∀ (n : Int), (n = 1 ∨ n = 2 ∨ n = 3 ∨ n = 4 ∨ n = 5 ∨ n = 7 ∨ n = 8 ∨ n = 11) → i.op = n → defI i = i.d := fun n hn e => by
  unfold defI; rw [e]; rcases hn with rfl | rfl | rfl | rfl | rfl | rfl | rfl | rfl <;> rfl
 have D' : ∀ (n : Int), (n = 6 ∨ n = 10 ∨ n = 12) → i.op = n → defI i = -1 := fun n hn e => by
  unfold defI; rw [e]; rcases hn with rfl | rfl | rfl <;> rfl
 rcases hop with e | e | e | e | e | e | e | e | e | e | e <;> rw [e] at h <;> simp at h
 case inl => subst h; exact ⟨.inr ⟨D _ (by decide) e, by omega, by omega, by omega, _, rfl⟩, rfl, rfl, .inr ⟨by omega, rfl⟩, fun _ => rfl, fun _ => rfl⟩
 case inr.inl => subst h; exact ⟨.inr ⟨D _ (by decide) e, by omega, by omega, by omega, _, rfl⟩, rfl, rfl, .inr ⟨by omega, rfl⟩, fun _ => rfl, fun _ => rfl⟩
 case inr.inr.inl => subst h; exact ⟨.inr ⟨D _ (by decide) e, by omega, by omega, by omega, _, rfl⟩, rfl, rfl, .inr ⟨by omega, rfl⟩, fun _ => rfl, fun _ => rfl⟩
 case inr.inr.inr.inl => subst h; exact ⟨.inr ⟨D _ (by decide) e, by omega, by omega, by omega, _, rfl⟩, rfl, rfl, .inr ⟨by omega, rfl⟩, fun _ => rfl, fun _ => rfl⟩
 case inr.inr.inr.inr.inl => obtain ⟨-, rfl⟩ := h; exact ⟨.inr ⟨D _ (by decide) e, by omega, by omega, by omega, _, rfl⟩, rfl, rfl, .inr ⟨by omega, rfl⟩, fun _ => rfl, fun _ => rfl⟩
 case inr.inr.inr.inr.inr.inl => obtain ⟨h0, rfl⟩ := h; exact ⟨.inl ⟨D' _ (by decide) e, rfl⟩, rfl, rfl, .inl ⟨e, h0, rfl⟩, fun _ => rfl, fun _ => rfl⟩
 case inr.inr.inr.inr.inr.inr.inl => subst h; exact ⟨.inr ⟨D _ (by decide) e, by omega, by omega, by omega, _, rfl⟩, rfl, rfl, .inr ⟨by omega, rfl⟩, fun _ => rfl, fun _ => rfl⟩
 case inr.inr.inr.inr.inr.inr.inr.inl => subst h; exact ⟨.inr ⟨D _ (by decide) e, by omega, by omega, by omega, _, rfl⟩, rfl, rfl, .inr ⟨by omega, rfl⟩, fun _ => rfl, fun _ => rfl⟩
 case inr.inr.inr.inr.inr.inr.inr.inr.inl => subst h; exact ⟨.inl ⟨D' _ (by decide) e, rfl⟩, rfl, rfl, .inr ⟨by omega, rfl⟩, fun h => absurd e h, fun _ => rfl⟩
 case inr.inr.inr.inr.inr.inr.inr.inr.inr.inl => subst h; exact ⟨.inr ⟨D _ (by decide) e, by omega, by omega, by omega, _, rfl⟩, rfl, rfl, .inr ⟨by omega, rfl⟩, fun _ => rfl, fun h => absurd e h⟩
 case inr.inr.inr.inr.inr.inr.inr.inr.inr.inr => subst h; exact ⟨.inl ⟨D' _ (by decide) e, rfl⟩, rfl, rfl, .inr ⟨by omega, rfl⟩, fun _ => rfl, fun _ => rfl⟩
end Go.Proofs.Ytkhfddodmjnecaa

set_option linter.all false
namespace Go.Proofs.Ytkhfddodmjnecaa
set_option linter.unusedVariables false

theorem fewM_sz {m : Md} (h : fewM m = true) : SzM m := by
 unfold fewM at h
 simp only [Bool.and_eq_true, List.all_eq_true] at h
 refine ⟨fun p hp => ?_⟩
 have h2 := h.2.2.2 p hp
 unfold prF at h2
 simp only [Bool.and_eq_true, decide_eq_true_eq, List.all_eq_true] at h2
 refine ⟨by omega, fun b hb => ?_⟩
 have h3 := h2.2.2 b hb
 unfold blkF at h3
 simp only [Bool.and_eq_true, decide_eq_true_eq] at h3
 omega
theorem fewM_pr {m : Md} (h : fewM m = true) {p : Pr} (hp : p ∈ m.procs) : p.blks.length ≤ 40 ∧ p.objs.length ≤ 20 ∧ ∀ b ∈ p.blks, b.ins.length ≤ 60 ∧ ∀ i ∈ b.ins, insF i = true := by
 unfold fewM at h
 simp only [Bool.and_eq_true, List.all_eq_true] at h
 have h2 := h.2.2.2 p hp
 unfold prF at h2
 simp only [Bool.and_eq_true, decide_eq_true_eq, List.all_eq_true] at h2
 refine ⟨h2.1, h2.2.1, fun b hb => ?_⟩
 have h3 := h2.2.2 b hb
 unfold blkF at h3
 simp only [Bool.and_eq_true, decide_eq_true_eq, List.all_eq_true] at h3
 exact h3
end Go.Proofs.Ytkhfddodmjnecaa

set_option linter.all false
namespace Go.Proofs.Ytkhfddodmjnecaa
open Go.ChangeShapes Go.WideShapes Go.ChangeAt Go.RowKit
set_option maxHeartbeats 400000
set_option maxRecDepth 10000

/-- what lies in none of the walk's blocks stays, and its rows are those of before or new -/
structure FrR (w w' : World) (bw bs : Nat) (ov bv ov' bv' : Value) : Prop where
 os : w'.os = w.os
 tape : w'.tape = w.tape
 output : w'.output = w.output
 size : w.heap.size ≤ w'.heap.size
 block : ∀ k, k < w.heap.size → k ≠ bw → k ≠ bs → ov.ownBlock ≠ some k → bv.ownBlock ≠ some k → w'.heap[k]? = w.heap[k]?
 no : NewB w ov ov'
 nb : NewB w bv bv'
theorem FrR.refl (w : World) (bw bs : Nat) (ov bv : Value) : FrR w w bw bs ov bv ov bv := ⟨rfl, rfl, rfl, Nat.le_refl _, fun _ _ _ _ _ _ => rfl, .refl _ _, .refl _ _⟩
theorem newB_far {w : World} {v v' : Value} {k : Nat} (h : NewB w v v') (hk : k < w.heap.size) (hv : v.ownBlock ≠ some k) : v'.ownBlock ≠ some k := by
 rcases h with e | ⟨j, hj, e⟩
 ·rw [e]; exact hv
 ·rw [e]; intro e2; simp only [Option.some.injEq] at e2; omega
theorem NewB.trans {w w1 : World} {v v1 v2 : Value} (h : NewB w v v1) (h1 : NewB w1 v1 v2) (hs : w.heap.size ≤ w1.heap.size) : NewB w v v2 := by
 rcases h1 with e | ⟨j, hj, e⟩
 ·rcases h with e0 | ⟨k, hk, e0⟩
  ·exact .inl (e.trans e0)
  ·exact .inr ⟨k, hk, e.trans e0⟩
 ·exact .inr ⟨j, Nat.le_trans hs hj, e⟩
theorem FrR.trans {a b c : World} {bw bs : Nat} {o1 b1 o2 b2 o3 b3 : Value} (h : FrR a b bw bs o1 b1 o2 b2) (h' : FrR b c bw bs o2 b2 o3 b3) : FrR a c bw bs o1 b1 o3 b3 :=
 ⟨h'.os.trans h.os, h'.tape.trans h.tape, h'.output.trans h.output, Nat.le_trans h.size h'.size,
   fun k hk k1 k2 k3 k4 => (h'.block k (Nat.lt_of_lt_of_le hk h.size) k1 k2 (newB_far h.no hk k3) (newB_far h.nb hk k4)).trans (h.block k hk k1 k2 k3 k4),
   h.no.trans h'.no h.size, h.nb.trans h'.nb h.size⟩
section
variable {w : World} {bw bs B n : Nat} {s : S3} {ov bv : Value}
end
end Go.Proofs.Ytkhfddodmjnecaa
