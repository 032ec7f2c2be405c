/-
 Contracts of flow's Order, Back and Reach.; Whether a register is live at a place of a block, by going all ways on; how this search lies in memory.; Contract of the reference's Live.; Contract of the statements' same.; Plain arithmetic of 32-bit words: signed readings, products by halves, truncated and floored division.
-/
import Derived.Test.YtkhfddodmjnecaaGreatDoorZFoldKnown07
import Derived.RowKit

set_option linter.all false
namespace Go.Proofs.YtkhfddodmjnecaaGreatDoor
open Go.ChangeShapes Go.WideShapes Go.ChangeAt Go.RowKit
set_option maxHeartbeats 2000000
set_option maxRecDepth 20000

theorem ownsRow_base {w : World} {B B' n s : Nat} {e : TypeId} {v : Value} {xs : List Value} (h : w.ownsRow B e s v n xs) (hB : B' ≤ B) : w.ownsRow B' e s v n xs := by
 obtain ⟨h1, h2 | ⟨g, cap, cur, h3, hb, r⟩⟩ := h
 ·exact ⟨h1, .inl h2⟩
 ·exact ⟨h1, .inr ⟨g, cap, cur, h3, Nat.le_trans hB hb, r⟩⟩
theorem order_c (p : Pr) (V : Value) (w : World) (hP : PrV w V p) (hlen : p.blks.length ≤ 1000000) :
  Calls Tryz.prog 57 #[V] w (RetI w (wkD p).ord.reverse) := by
 have EW : Hid (∀ o, Calls Tryz.prog 86 #[V] (w.alloc o) (WkR (w.alloc o) p)) := fun o => walked_c p V _ (hP.ext (Ext.alloc w o)) hlen
 obtain ⟨nm, vo, vb, rfl, -, a, c, rfl, -, -, -⟩ := hP
 go_enter Tryz.func57, Tryz.ntmps57
 go_wp2_with (go_at_call 86; refine (EW.out _).mono ?_; rintro e w1 ⟨bw, bs, B, ov, bv, tv, hd, s, rfl, M, ho, hb, hr⟩; have M := Lib.hid M; have q7 : w1.cell? ⟨bw, 7, none⟩ = some ov := (M.out.wk.cellAt 7 (by decide)).trans (by rw [List.getElem?_append_right (by rw [M.out.hd6]; decide), M.out.hd6]; rfl))
 go_ret
 refine ⟨_, rfl, ?_, ?_⟩
 ·rw [← ho]
  exact ownsRow_base M.out.ord (Nat.le_trans (by simp) M.out.pB)
 ·exact (below_alloc w _).trans (M.out.below.mono (by simp))
end Go.Proofs.YtkhfddodmjnecaaGreatDoor

set_option linter.all false
namespace Go.Proofs.YtkhfddodmjnecaaGreatDoor
open Go.ChangeShapes Go.WideShapes Go.ChangeAt Go.RowKit
set_option maxHeartbeats 2000000
set_option maxRecDepth 20000

/-- the search, with the blocks that are still to be gone into -/
def lvQ (p : Pr) (r : Int) : Nat → List Bool → List Int → Bool
 | 0, _, _ => false
 | _ + 1, _, [] => false
 | f + 1, seen, b :: q =>
  if seen.getD b.toNat false = true then lvQ p r f seen q
  else if withinB (p.blks.getD b.toNat default) 0 r = 1 then true
  else if withinB (p.blks.getD b.toNat default) 0 r = 0 then lvQ p r f (seen.set b.toNat true) (q ++ outsP p b.toNat)
  else lvQ p r f (seen.set b.toNat true) q
/-- how far the search has come -/
structure LvQ (p : Pr) (r : Int) (R : Bool) (f : Nat) (seen : List Bool) (todo : List Int) (k : Nat) : Prop where
 res : lvQ p r f seen (todo.drop k) = R
 le : k ≤ todo.length
 len : seen.length = p.blks.length
 fuel : todo.length - k + 3 * seen.count false ≤ f
 room : todo.length + 2 * seen.count false ≤ 2 + 2 * p.blks.length
 ins : ∀ t ∈ todo, 0 ≤ t ∧ t < p.blks.length
theorem LvQ.start (p : Pr) (r : Int) (n : Nat) : LvQ p r (lvQ p r (2 + 3 * p.blks.length) (List.replicate p.blks.length false) (outsP p n)) (2 + 3 * p.blks.length) (List.replicate p.blks.length false) (outsP p n) 0 := by
 have := outsP_len p n
 refine ⟨rfl, by omega, by simp, ?_, ?_, fun t ht => outsP_mem ht⟩
 ·simp [List.count_replicate_self]; omega
 ·simp [List.count_replicate_self]; omega
section
variable {p : Pr} {r : Int} {R : Bool} {f : Nat} {seen : List Bool} {todo : List Int} {k : Nat}
theorem LvQ.done (h : LvQ p r R f seen todo k) (hk : ¬ k < todo.length) : R = false := by
 have h1 := h.res
 rw [List.drop_eq_nil_of_le (by omega)] at h1
 rw [← h1]
 cases f <;> rfl
theorem LvQ.cons (h : LvQ p r R f seen todo k) (hk : k < todo.length) : ∃ f', f = f' + 1 ∧ (0 ≤ todo.getD k 0 ∧ todo.getD k 0 < p.blks.length) ∧ lvQ p r (f' + 1) seen (todo.getD k 0 :: todo.drop (k + 1)) = R := by
 have h1 := h.fuel
 refine ⟨f - 1, by omega, h.ins _ (by simp [List.getD, hk]), ?_⟩
 have h2 := h.res
 rw [List.drop_eq_getElem_cons hk] at h2
 rw [show f - 1 + 1 = f by omega]
 simpa [List.getD, hk] using h2
theorem LvQ.old (h : LvQ p r R f seen todo k) (hk : k < todo.length) (hs : seen.getD (todo.getD k 0).toNat false = true) : ∃ f', f' < f ∧ LvQ p r R f' seen todo (k + 1) := by
 obtain ⟨f', rfl, -, h1⟩ := h.cons hk
 have h2 := h.fuel
 unfold lvQ at h1
 rw [if_pos hs] at h1
 exact ⟨f', Nat.lt_succ_self _, h1, hk, h.len, by omega, h.room, h.ins⟩
theorem LvQ.yes (h : LvQ p r R f seen todo k) (hk : k < todo.length) (hs : seen.getD (todo.getD k 0).toNat false = false) (hw : withinB (p.blks.getD (todo.getD k 0).toNat default) 0 r = 1) : R = true := by
 obtain ⟨f', rfl, -, h1⟩ := h.cons hk
 unfold lvQ at h1
 rw [if_neg (by rw [hs]; decide), if_pos hw] at h1
 exact h1.symm
end

/-- the search in memory -/
structure LQ (W0 w : World) (gs B n : Nat) (seen : List Bool) (tv : Value) (todo : List Int) : Prop where
 below : Below W0.heap.size W0 w
 row : RowB w gs n n seen
 own : OwnI w B tv todo
 g0 : W0.heap.size ≤ gs
 gB : gs < B
 Bw : B ≤ w.heap.size
section
variable {W0 w : World} {gs B n : Nat} {seen : List Bool} {tv : Value} {todo : List Int}
theorem LQ.grow {w' : World} (h : LQ W0 w gs B n seen tv todo) (hb : Below w.heap.size w w') : LQ W0 w' gs B n seen tv todo := by
 have hg : w.grownBy w' none := ⟨hb.os, hb.tape, hb.output, hb.size, fun k hk _ => hb.block k hk⟩
 have h1 := h.g0
 have h2 := h.gB
 have h3 := h.Bw
 exact ⟨h.below.trans (hb.mono (by omega)), h.row.below hb, World.ownsRow.kept h.own hg (by cases tv.ownBlock <;> simp), h.g0, h.gB, Nat.le_trans h.Bw hb.size⟩
theorem LQ.outs {w1 : World} {v : Value} {l : List Int} (h : LQ W0 w gs B n seen tv todo) (hr : RdF w1 w.heap.size v l) : OutsAt w1 B tv (.slice none 0 0) (.slice none 0 0) v l := by
 obtain ⟨⟨a, c, rfl, h2, h3, h4⟩, hf⟩ := hr
 refine ⟨a, c, rfl, h2, h3, fun i hi => ?_⟩
 obtain ⟨b, o, rfl, hc⟩ := h4 i hi
 have hb : w.heap.size ≤ b := hf _ _ _ rfl
 refine ⟨b, o, rfl, Nat.le_trans h.Bw hb, fun e => ?_, by simp [Value.ownBlock], by simp [Value.ownBlock], by simpa using hc⟩
 have := (World.ownsRow.lt h.own b e).2
 omega
theorem LQ.set (h : LQ W0 w gs B n seen tv todo) (i : Nat) : LQ W0 (w.setCell ⟨gs, i, none⟩ (.bool true)) gs B n (seen.set i true) tv todo := by
 have hg : w.grownBy (w.setCell ⟨gs, i, none⟩ (.bool true)) (some gs) := ⟨rfl, rfl, rfl, by simp, fun k _ hk => Below.heap_setCell w ⟨gs, i, none⟩ _ k (fun e => hk (by rw [show k = gs from e]))⟩
 exact ⟨h.below.setCell h.g0 _, OwnB.set h.row i true, World.ownsRow.kept h.own hg (ne_of (row_far h.own h.gB)), h.g0, h.gB, by simpa using h.Bw⟩
theorem LQ.app {w' : World} {tv' : Value} {x : Int} (h : LQ W0 w gs B n seen tv todo) (hg : w.grownBy w' tv.ownBlock) (ho : w'.ownsRow B 3 1 tv' (todo.length + 1) (todo.map (Value.int .i64) ++ [.int .i64 x])) : LQ W0 w' gs B n seen tv' (todo ++ [x]) := by
 have fr : ∀ b, tv.ownBlock = some b → B ≤ b := fun b e => (World.ownsRow.lt h.own b e).1
 have h1 := h.g0
 have h2 := h.gB
 refine ⟨grown_belG h.below (Nat.le_trans (by omega) h.Bw) hg (fun b e => by have := fr b e; omega), World.ownsRow.kept h.row hg (.inr (fun e => by have := fr gs e.symm; omega)), ?_, h.g0, h.gB, Nat.le_trans h.Bw hg.size⟩
 unfold OwnI
 simpa using ho
end
end Go.Proofs.YtkhfddodmjnecaaGreatDoor

set_option linter.all false
namespace Go.Proofs.YtkhfddodmjnecaaGreatDoor
open Go.ChangeShapes Go.WideShapes Go.ChangeAt Go.RowKit
set_option maxHeartbeats 2000000
set_option maxRecDepth 20000

end Go.Proofs.YtkhfddodmjnecaaGreatDoor

set_option linter.all false
namespace Go.Proofs.YtkhfddodmjnecaaGreatDoor
open Go.ChangeShapes Go.WideShapes Go.ChangeAt Go.RowKit
set_option maxHeartbeats 2000000
set_option maxRecDepth 20000

end Go.Proofs.YtkhfddodmjnecaaGreatDoor

set_option linter.all false
namespace Go.Proofs.YtkhfddodmjnecaaGreatDoor
open Go.RowKit

/-- a word as a signed number -/
def sg (a : Int) : Int := if a < 2147483648 then a else a - 4294967296
/-- shifted to the left by so many -/
def shl32 (a b : Int) : Int := (a * 2 ^ (b % 32).toNat) % 4294967296
def sar32 (a b : Int) : Int := (sg a / 2 ^ (b % 32).toNat) % 4294967296
def divS (a b : Int) : Int := if b = 0 then 4294967295 else ((sg a).tdiv (sg b)) % 4294967296
def remS (a b : Int) : Int := if b = 0 then a else ((sg a).tmod (sg b)) % 4294967296
def lessS (a b : Int) : Int := if sg a < sg b then 1 else 0
def highU (a b : Int) : Int := a * b / 4294967296
theorem wrap32_sg (a : Int) (h : 0 ≤ a) (h' : a < 4294967296) : wrap32 a = sg a := by
 unfold sg wrap32; split <;> omega
theorem sg_bd (a : Int) (h : 0 ≤ a) (h' : a < 4294967296) : -2147483648 ≤ sg a ∧ sg a < 2147483648 := by
 unfold sg; split <;> omega
theorem wrap64_in (a : Int) (h : -9223372036854775808 ≤ a) (h' : a < 9223372036854775808) : wrap64 a = a := by
 unfold wrap64; omega

theorem mul_bd (a b A B : Int) (ha : -A ≤ a) (ha' : a ≤ A) (hb : -B ≤ b) (hb' : b ≤ B) : -(A * B) ≤ a * b ∧ a * b ≤ A * B := by
 have h1 : a.natAbs * b.natAbs ≤ A.natAbs * B.natAbs := Nat.mul_le_mul (by omega) (by omega)
 have h2 : (a * b).natAbs = a.natAbs * b.natAbs := Int.natAbs_mul a b
 have h3 : (A * B).natAbs = A.natAbs * B.natAbs := Int.natAbs_mul A B
 have hA : 0 ≤ A := by omega
 have hB : 0 ≤ B := by omega
 have h4 : 0 ≤ A * B := Int.mul_nonneg hA hB
 omega
theorem mul_nn (a b A B : Int) (ha : 0 ≤ a) (ha' : a ≤ A) (hb : 0 ≤ b) (hb' : b ≤ B) : 0 ≤ a * b ∧ a * b ≤ A * B :=
 ⟨Int.mul_nonneg ha hb, (mul_bd a b A B (by omega) ha' (by omega) hb').2⟩

/-- a number of 64 bits cut to a word: by a truncated remainder -/
theorem cut_neg (n : Int) (h : n < 0) : n.tmod 4294967296 = n % 4294967296 - (if n % 4294967296 = 0 then 0 else 4294967296) := by
 rw [Int.tmod_eq_emod]; split <;> split <;> omega

/-- the halves of a product -/
theorem half_eq (a b : Int) (h : 0 ≤ a) (h' : a < 4294967296) (h1 : 0 ≤ b) (h1' : b < 4294967296) :
  ∃ ll hl lh hh : Int, (a % 65536) * (b % 65536) = ll ∧ (a / 65536) * (b % 65536) = hl ∧ (a % 65536) * (b / 65536) = lh ∧ (a / 65536) * (b / 65536) = hh ∧
   0 ≤ ll ∧ ll ≤ 4294836225 ∧ 0 ≤ hl ∧ hl ≤ 4294836225 ∧ 0 ≤ lh ∧ lh ≤ 4294836225 ∧ 0 ≤ hh ∧ hh ≤ 4294836225 ∧ a * b = hh * 4294967296 + (hl + lh) * 65536 + ll := by
 refine ⟨_, _, _, _, rfl, rfl, rfl, rfl, ?_⟩
 have e1 := mul_nn (a % 65536) (b % 65536) 65535 65535 (by omega) (by omega) (by omega) (by omega)
 have e2 := mul_nn (a / 65536) (b % 65536) 65535 65535 (by omega) (by omega) (by omega) (by omega)
 have e3 := mul_nn (a % 65536) (b / 65536) 65535 65535 (by omega) (by omega) (by omega) (by omega)
 have e4 := mul_nn (a / 65536) (b / 65536) 65535 65535 (by omega) (by omega) (by omega) (by omega)
 refine ⟨e1.1, by omega, e2.1, by omega, e3.1, by omega, e4.1, by omega, ?_⟩
 have ha : a = 65536 * (a / 65536) + a % 65536 := by omega
 have hb : b = 65536 * (b / 65536) + b % 65536 := by omega
 generalize a / 65536 = x at *
 generalize a % 65536 = y at *
 generalize b / 65536 = u at *
 generalize b % 65536 = v at *
 subst ha hb
 simp only [Int.add_mul, Int.mul_add]
 have t1 : 65536 * x * (65536 * u) = 4294967296 * (x * u) := by
  rw [Int.mul_assoc, ← Int.mul_assoc x, Int.mul_comm x 65536, Int.mul_assoc 65536 x u, ← Int.mul_assoc]; rfl
 have t2 : 65536 * x * v = 65536 * (x * v) := Int.mul_assoc _ _ _
 have t3 : y * (65536 * u) = 65536 * (y * u) := by rw [← Int.mul_assoc, Int.mul_comm y 65536, Int.mul_assoc]
 rw [t1, t2, t3]
 omega

theorem pow_split (n : Nat) (h : n ≤ 32) : ∃ p q : Int, (2 : Int) ^ n = p ∧ (4294967296 : Int) / p = q ∧ p * q = 4294967296 ∧ 1 ≤ p ∧ 1 ≤ q ∧ p ≤ 4294967296 ∧ q ≤ 4294967296 := by
 refine ⟨_, _, rfl, rfl, ?_⟩
 have : n = 0 ∨ n = 1 ∨ n = 2 ∨ n = 3 ∨ n = 4 ∨ n = 5 ∨ n = 6 ∨ n = 7 ∨ n = 8 ∨ n = 9 ∨ n = 10 ∨ n = 11 ∨ n = 12 ∨ n = 13 ∨ n = 14 ∨ n = 15 ∨ n = 16 ∨ n = 17 ∨ n = 18 ∨ n = 19 ∨ n = 20 ∨ n = 21 ∨ n = 22 ∨ n = 23 ∨ n = 24 ∨ n = 25 ∨ n = 26 ∨ n = 27 ∨ n = 28 ∨ n = 29 ∨ n = 30 ∨ n = 31 ∨ n = 32 := by omega
 rcases this with h | h | h | h | h | h | h | h | h | h | h | h | h | h | h | h | h | h | h | h | h | h | h | h | h | h | h | h | h | h | h | h | h <;> subst h <;> decide
/-- shifted to the left: what is lost is lost first -/
theorem shl_eq (a b : Int) (h : 0 ≤ b) : ((a % (4294967296 / 2 ^ (b % 32).toNat)) * 2 ^ (b % 32).toNat) % 4294967296 = shl32 a b ∧ (0 ≤ (a % (4294967296 / 2 ^ (b % 32).toNat)) * 2 ^ (b % 32).toNat ∧ (a % (4294967296 / 2 ^ (b % 32).toNat)) * 2 ^ (b % 32).toNat < 4294967296) := by
 obtain ⟨p, q, h1, h2, h3, h4, h5, h6, h7⟩ := pow_split (b % 32).toNat (by omega)
 unfold shl32
 rw [h1, h2]
 have e1 := Int.emod_nonneg a (show q ≠ 0 by omega)
 have e2 := Int.emod_lt_of_pos a (show 0 < q by omega)
 have e3 : (a % q) * p = (a * p) % 4294967296 := by
  rw [← h3, Int.mul_comm a p, Int.mul_emod_mul_of_pos _ _ (by omega), Int.mul_comm]
 rw [e3]
 omega

/-- a power of two -/
def pw (k : Nat) : Int := 2 ^ k
theorem pw_succ (k : Nat) : pw (k + 1) = 2 * pw k := by unfold pw; rw [Int.pow_succ]; omega
theorem pw_pos (k : Nat) : 1 ≤ pw k := by
 unfold pw
 have h3 : 0 < (2 : Nat) ^ k := Nat.pow_pos (by omega)
 have h4 : (2 : Int) ^ k = ((2 ^ k : Nat) : Int) := by simp
 rw [h4]; omega
theorem pw_le (k m : Nat) (h : k ≤ m) : pw k ≤ pw m := by
 unfold pw
 have h2 : (2 : Nat) ^ k ≤ 2 ^ m := Nat.pow_le_pow_right (by omega) h
 have h4 : (2 : Int) ^ k = ((2 ^ k : Nat) : Int) := by simp
 have h5 : (2 : Int) ^ m = ((2 ^ m : Nat) : Int) := by simp
 rw [h4, h5]; omega
theorem pw_31 (k : Nat) (h : k ≤ 31) : pw k ≤ 2147483648 := pw_le k 31 h

theorem sg_zero (b : Int) (h : 0 ≤ b) (h' : b < 4294967296) : sg b = 0 ↔ b = 0 := by unfold sg; split <;> omega
theorem sg_inj (a b : Int) (h : 0 ≤ a) (h' : a < 4294967296) (h1 : 0 ≤ b) (h1' : b < 4294967296) : sg a = sg b ↔ a = b := by
 unfold sg; split <;> split <;> omega

theorem tdiv_bd (x y : Int) (h : -2147483648 ≤ x) (h' : x < 2147483648) : -2147483648 ≤ x.tdiv y ∧ x.tdiv y ≤ 2147483648 := by
 have h1 : (x.tdiv y).natAbs ≤ x.natAbs := by rw [Int.natAbs_tdiv]; exact Nat.div_le_self _ _
 omega
theorem div_eq (a b : Int) (h : 0 ≤ a) (h' : a < 4294967296) (h1 : 0 ≤ b) (h1' : b < 4294967296) (hb : b ≠ 0) :
  wrap64 ((wrap64 (wrap32 a)).tdiv (wrap64 (wrap32 b))) % 4294967296 = divS a b := by
 have ha := sg_bd a h h'
 have hb' := sg_bd b h1 h1'
 rw [wrap32_sg a h h', wrap32_sg b h1 h1', wrap64_in (sg a) (by omega) (by omega), wrap64_in (sg b) (by omega) (by omega)]
 have := tdiv_bd (sg a) (sg b) (by omega) (by omega)
 rw [wrap64_in _ (by omega) (by omega)]
 unfold divS; rw [if_neg hb]
theorem rem_eq (a b : Int) (h : 0 ≤ a) (h' : a < 4294967296) (h1 : 0 ≤ b) (h1' : b < 4294967296) (hb : b ≠ 0) :
  (wrap64 (wrap32 a)).tmod (wrap64 (wrap32 b)) % 4294967296 = remS a b := by
 have ha := sg_bd a h h'
 have hb' := sg_bd b h1 h1'
 rw [wrap32_sg a h h', wrap32_sg b h1 h1', wrap64_in (sg a) (by omega) (by omega), wrap64_in (sg b) (by omega) (by omega)]
 unfold remS; rw [if_neg hb]
/-- a quotient by amounts, with its sign -/
theorem div_abs (x y : Int) (hy : y ≠ 0) : x.tdiv y = (if (x < 0 ∧ 0 < y) ∨ (0 < x ∧ y < 0) then -(((x.natAbs / y.natAbs : Nat) : Int)) else ((x.natAbs / y.natAbs : Nat) : Int)) := by
 have h1 : (x.tdiv y).natAbs = x.natAbs / y.natAbs := Int.natAbs_tdiv x y
 have h2 : 0 ≤ x → 0 ≤ y → 0 ≤ x.tdiv y := fun a b => Int.tdiv_nonneg a b
 have h3 : x ≤ 0 → y ≤ 0 → 0 ≤ x.tdiv y := fun a b => by rw [← Int.neg_tdiv_neg]; exact Int.tdiv_nonneg (by omega) (by omega)
 have h4 : x ≤ 0 → 0 ≤ y → x.tdiv y ≤ 0 := fun a b => by have := Int.tdiv_nonneg (a := -x) (b := y) (by omega) b; rw [Int.neg_tdiv] at this; omega
 have h5 : 0 ≤ x → y ≤ 0 → x.tdiv y ≤ 0 := fun a b => by have := Int.tdiv_nonneg (a := x) (b := -y) a (by omega); rw [Int.tdiv_neg] at this; omega
 split <;> omega
theorem rem_abs (x y : Int) : x.tmod y = (if x < 0 then -(((x.natAbs % y.natAbs : Nat) : Int)) else ((x.natAbs % y.natAbs : Nat) : Int)) := by
 have h1 : (x.tmod y).natAbs = x.natAbs % y.natAbs := Int.natAbs_tmod x y
 have h2 : 0 ≤ x → 0 ≤ x.tmod y := fun a => Int.tmod_nonneg y a
 have h4 : x ≤ 0 → x.tmod y ≤ 0 := fun a => by have := Int.tmod_nonneg (a := -x) y (by omega); rw [Int.neg_tmod] at this; omega
 split <;> omega
end Go.Proofs.YtkhfddodmjnecaaGreatDoor
