/-
 Contract of flow's walk into a block.; Contract of slices.Reverse at lists of integers of the call's own.; Contracts of flow's walk through a procedure, and of what it tells: the order, and where ends lead back.; Contracts of flow's Order, Back and Reach.; Whether a register is live at a place of a block, by going all ways on; how this search lies in memory.; Contract of the reference's Live.; Contract of the statements' same.; Plain arithmetic of 32-bit words: signed readings, products by halves, truncated and floored division.; Contracts of the functions of word and of its reference: each returns the number that the plain arithmetic of W1 says, and leaves the world as it is. Conditions: each word lies between 0 and 2^32 - 1.; The game of a drawn region, where lengths and greatest numbers may be taken first too.
-/
import Derived.Test.YtkhfddodmjnecaaZAliasMeets05
import Derived.RowKit
import Derived.Test.YtkhfddodmjnecaaRows
import Derived.WalkKit
import Derived.ProofKit
import Derived.OpenShut
import Derived.Outline
import Derived.Lib.Hide
import Derived.Deep.QuietTactic
import Derived.BigQuiet
import Derived.Test.YtkhfddodmjnecaaZAliasMeets03

set_option linter.all false
namespace Go.Proofs.Ytkhfddodmjnecaa
open Go.ChangeShapes Go.WideShapes Go.ChangeAt Go.RowKit
set_option maxHeartbeats 2000000
set_option maxRecDepth 20000

/-- so far a walk has come, with what is still to do -/
structure WkI (p : Pr) (f : Nat) (R : S3) (s : S3) (S : List Kt) : Prop where
 res : contD p f S s = R
 len : s.st.length = p.blks.length
 fuel : s.zeros ≤ f
 room : s.ord.length + s.back.length + todo S s ≤ 10000000
 ins : ∀ k ∈ S, (0 ≤ k.n ∧ k.n < p.blks.length) ∧ ∀ t ∈ k.l, 0 ≤ t ∧ t < p.blks.length
theorem WkI.leave {p : Pr} {f : Nat} {R s : S3} {S : List Kt} {n : Int} {v : Value} (h : WkI p f R s (S ++ [⟨n, [], v⟩])) : WkI p f R (s.leave n) S := by
 have h1 := todo_leave S n v s
 have h2 := h.room
 refine ⟨by rw [← contD_leave p f S n v s]; exact h.res, by rw [leave_len]; exact h.len, Nat.le_trans (zeros_leave_le _ _) h.fuel, ?_, fun k hk => h.ins k (List.mem_append_left _ hk)⟩
 show (s.ord ++ [n]).length + s.back.length + _ ≤ _
 simp
 omega
theorem hI_back {p : Pr} {f : Nat} {n t : Int} {s : S3} (h1 : s.look t = 1) : hI p f n s t = s.loop n t := by unfold hI; rw [if_pos h1]
theorem WkI.tail {p : Pr} {f : Nat} {R s : S3} {S : List Kt} {n t : Int} {l : List Int} {v v' : Value} (h : WkI p f R s (S ++ [⟨n, t :: l, v⟩])) : ∀ k ∈ S ++ [(⟨n, l, v'⟩ : Kt)], (0 ≤ k.n ∧ k.n < (p.blks.length : Int)) ∧ ∀ t ∈ k.l, 0 ≤ t ∧ t < (p.blks.length : Int) := fun k hk => by
 rcases List.mem_append.1 hk with hk | hk
 ·exact h.ins k (List.mem_append_left _ hk)
 ·rw [List.mem_singleton.1 hk]
  have := h.ins _ (List.mem_append_right _ (List.mem_singleton_self _))
  exact ⟨this.1, fun t ht => this.2 t (List.mem_cons_of_mem _ ht)⟩
theorem WkI.back {p : Pr} {f : Nat} {R s : S3} {S : List Kt} {n t : Int} {l : List Int} {v : Value} (v' : Value) (h : WkI p f R s (S ++ [⟨n, t :: l, v⟩])) (h1 : s.look t = 1) : WkI p f R (s.loop n t) (S ++ [⟨n, l, v'⟩]) := by
 have h2 := todo_old S n t l v v' s (s.loop n t) rfl
 have h3 := h.room
 have h4 := h.res
 rw [contD_step p f S n t l v v', hI_back h1] at h4
 refine ⟨h4, h.len, h.fuel, ?_, h.tail⟩
 show s.ord.length + (s.back ++ [(n, t)]).length + _ ≤ _
 simp
 omega
theorem WM.first {wp w : World} {bw bs B n : Nat} {hd : List Value} {s : S3} {ov bv : Value} {k : Kt} (h : WM wp w bw bs B n hd s ov bv (.slice none 0 0) []) (hk : OutsAt w B ov bv (.slice none 0 0) k.v k.l) :
  WM wp (w.alloc (.cells #[.int .i64 k.n, k.v] 253)) bw bs B n hd s ov bv (.slice (some ⟨w.heap.size, 0, none⟩) 1 1) [k] :=
 h.push hk (World.grownBy_alloc _ _ _) ⟨rfl, .inr ⟨w.heap.size, 1, _, rfl, h.Bw, heap_alloc_new w _, Nat.le_refl _, by simp [maxLen], rfl, rfl⟩⟩ (.inr rfl)
theorem grown_cell {w w' : World} {row : Option Nat} (hg : w.grownBy w' row) {b o : Nat} (hb : b < w.heap.size) (hr : row ≠ some b) : w'.cell? ⟨b, o, none⟩ = w.cell? ⟨b, o, none⟩ := World.cell?_of_block (w := w) (a := ⟨b, o, none⟩) (hg.block b hb (fun e => hr e.symm))
theorem row_form {w : World} {B n sz : Nat} {e : TypeId} {v : Value} {xs : List Value} (h : w.ownsRow B e sz v n xs) : ∃ a c, v = .slice a n c := by
 obtain ⟨-, ⟨rfl, rfl⟩ | ⟨g, cap, cur, rfl, -⟩⟩ := h
 ·exact ⟨none, 0, rfl⟩
 ·exact ⟨_, cap, rfl⟩
end Go.Proofs.Ytkhfddodmjnecaa

set_option linter.all false
namespace Go.Proofs.Ytkhfddodmjnecaa
open Go.ChangeShapes Go.WideShapes Go.ChangeAt Go.RowKit
set_option maxHeartbeats 2000000
set_option maxRecDepth 20000

/-- the k first and the k last have changed places -/
structure RevR (l cur : List Int) (k : Nat) : Prop where
 len : cur.length = l.length
 le : 2 * k ≤ l.length
 get : ∀ t, t < l.length → cur.getD t 0 = if t < k ∨ l.length - k ≤ t then l.getD (l.length - 1 - t) 0 else l.getD t 0
theorem getD_setI (l : List Int) (i t : Nat) (x : Int) (h : i < l.length) : (l.set i x).getD t 0 = if i = t then x else l.getD t 0 := by
 by_cases e : i = t
 ·subst e; simp [List.getD, h]
 ·simp [List.getD, List.getElem?_set, e]
theorem RevR.start (l : List Int) : RevR l l 0 := ⟨rfl, by omega, fun t ht => by rw [if_neg (by omega)]⟩
theorem RevR.step {l cur : List Int} {k : Nat} (h : RevR l cur k) (hk : 2 * k + 1 < l.length) : RevR l ((cur.set k (cur.getD (l.length - 1 - k) 0)).set (l.length - 1 - k) (cur.getD k 0)) (k + 1) := by
 have hl := h.len
 refine ⟨by simpa using h.len, by omega, fun t ht => ?_⟩
 have hx := h.get k (by omega)
 have hy := h.get (l.length - 1 - k) (by omega)
 rw [if_neg (by omega)] at hx hy
 rw [getD_setI (cur.set k (cur.getD (l.length - 1 - k) 0)) (l.length - 1 - k) t _ (by rw [List.length_set]; omega), getD_setI cur k t _ (by omega), hx, hy, h.get t ht]
 by_cases e1 : l.length - 1 - k = t
 ·rw [if_pos e1, if_pos (by omega), ← e1, show l.length - 1 - (l.length - 1 - k) = k by omega]
 ·rw [if_neg e1]
  by_cases e2 : k = t
  ·rw [if_pos e2, if_pos (by omega), ← e2]
  ·rw [if_neg e2]
   by_cases e3 : t < k ∨ l.length - k ≤ t
   ·rw [if_pos e3, if_pos (by omega)]
   ·rw [if_neg e3, if_neg (by omega)]
theorem RevR.done {l cur : List Int} {k : Nat} (h : RevR l cur k) (hk : ¬ 2 * k + 1 < l.length) : cur = l.reverse := by
 apply List.ext_getElem
 ·simpa using h.len
 ·intro t h1 h2
  have hl := h.len
  have ht : t < l.length := by omega
  have := h.get t ht
  have e : (if t < k ∨ l.length - k ≤ t then l.getD (l.length - 1 - t) 0 else l.getD t 0) = l.getD (l.length - 1 - t) 0 := by
   split
   ·rfl
   ·have := h.le
    rw [show l.length - 1 - t = t by omega]
  rw [e] at this
  rw [List.getElem_reverse]
  simpa [List.getD, h1, ht, show l.length - 1 - t < l.length by omega] using this
end Go.Proofs.Ytkhfddodmjnecaa

set_option linter.all false
namespace Go.Proofs.Ytkhfddodmjnecaa
open Go.ChangeShapes Go.WideShapes Go.ChangeAt Go.RowKit
set_option maxHeartbeats 2000000
set_option maxRecDepth 20000

end Go.Proofs.Ytkhfddodmjnecaa

set_option linter.all false
namespace Go.Proofs.Ytkhfddodmjnecaa
open Go.ChangeShapes Go.WideShapes Go.ChangeAt Go.RowKit
set_option maxHeartbeats 2000000
set_option maxRecDepth 20000

end Go.Proofs.Ytkhfddodmjnecaa

set_option linter.all false
namespace Go.Proofs.Ytkhfddodmjnecaa
open Go.ChangeShapes Go.WideShapes Go.ChangeAt Go.RowKit
set_option maxHeartbeats 2000000
set_option maxRecDepth 20000

/-- the search, with the blocks that are still to be gone into -/
def lvQ (p : Pr) (r : Int) : Nat → List Bool → List Int → Bool
 | 0, _, _ => false
 | _ + 1, _, [] => false
 | f + 1, seen, b :: q =>
  if seen.getD b.toNat false = true then lvQ p r f seen q
  else if withinB (p.blks.getD b.toNat default) 0 r = 1 then true
  else if withinB (p.blks.getD b.toNat default) 0 r = 0 then lvQ p r f (seen.set b.toNat true) (q ++ outsP p b.toNat)
  else lvQ p r f (seen.set b.toNat true) q
/-- how far the search has come -/
structure LvQ (p : Pr) (r : Int) (R : Bool) (f : Nat) (seen : List Bool) (todo : List Int) (k : Nat) : Prop where
 res : lvQ p r f seen (todo.drop k) = R
 le : k ≤ todo.length
 len : seen.length = p.blks.length
 fuel : todo.length - k + 3 * seen.count false ≤ f
 room : todo.length + 2 * seen.count false ≤ 2 + 2 * p.blks.length
 ins : ∀ t ∈ todo, 0 ≤ t ∧ t < p.blks.length
theorem count_set_false (l : List Bool) (i : Nat) (h : i < l.length) (h0 : l.getD i false = false) : (l.set i true).count false + 1 = l.count false := by
 have h1 : l[i] = false := by simpa [List.getD, h] using h0
 have h2 : 0 < l.count false := List.count_pos_iff.2 (h1 ▸ List.getElem_mem h)
 rw [List.count_set h]
 simp [h1]
 omega
theorem LvQ.start (p : Pr) (r : Int) (n : Nat) : LvQ p r (lvQ p r (2 + 3 * p.blks.length) (List.replicate p.blks.length false) (outsP p n)) (2 + 3 * p.blks.length) (List.replicate p.blks.length false) (outsP p n) 0 := by
 have := outsP_len p n
 refine ⟨rfl, by omega, by simp, ?_, ?_, fun t ht => outsP_mem ht⟩
 ·simp [List.count_replicate_self]; omega
 ·simp [List.count_replicate_self]; omega
section
variable {p : Pr} {r : Int} {R : Bool} {f : Nat} {seen : List Bool} {todo : List Int} {k : Nat}
theorem LvQ.done (h : LvQ p r R f seen todo k) (hk : ¬ k < todo.length) : R = false := by
 have h1 := h.res
 rw [List.drop_eq_nil_of_le (by omega)] at h1
 rw [← h1]
 cases f <;> rfl
theorem LvQ.cons (h : LvQ p r R f seen todo k) (hk : k < todo.length) : ∃ f', f = f' + 1 ∧ (0 ≤ todo.getD k 0 ∧ todo.getD k 0 < p.blks.length) ∧ lvQ p r (f' + 1) seen (todo.getD k 0 :: todo.drop (k + 1)) = R := by
 have h1 := h.fuel
 refine ⟨f - 1, by omega, h.ins _ (by simp [List.getD, hk]), ?_⟩
 have h2 := h.res
 rw [List.drop_eq_getElem_cons hk] at h2
 rw [show f - 1 + 1 = f by omega]
 simpa [List.getD, hk] using h2
theorem LvQ.yes (h : LvQ p r R f seen todo k) (hk : k < todo.length) (hs : seen.getD (todo.getD k 0).toNat false = false) (hw : withinB (p.blks.getD (todo.getD k 0).toNat default) 0 r = 1) : R = true := by
 obtain ⟨f', rfl, -, h1⟩ := h.cons hk
 unfold lvQ at h1
 rw [if_neg (by rw [hs]; decide), if_pos hw] at h1
 exact h1.symm
theorem LvQ.more (h : LvQ p r R f seen todo k) (hk : k < todo.length) (hs : seen.getD (todo.getD k 0).toNat false = false) (hw : withinB (p.blks.getD (todo.getD k 0).toNat default) 0 r = 0) : ∃ f', f' < f ∧ LvQ p r R f' (seen.set (todo.getD k 0).toNat true) (todo ++ outsP p (todo.getD k 0).toNat) (k + 1) := by
 obtain ⟨f', rfl, ht, h1⟩ := h.cons hk
 have h2 := h.fuel
 have h3 := h.room
 have h4 := count_set_false seen (todo.getD k 0).toNat (by rw [h.len]; omega) hs
 have h5 := outsP_len p (todo.getD k 0).toNat
 unfold lvQ at h1
 rw [if_neg (by rw [hs]; decide), if_neg (by rw [hw]; decide), if_pos hw] at h1
 refine ⟨f', Nat.lt_succ_self _, by rw [List.drop_append_of_le_length (by omega)]; exact h1, by rw [List.length_append]; omega, by simpa using h.len, by rw [List.length_append]; omega, by rw [List.length_append]; omega, fun t ht => ?_⟩
 rcases List.mem_append.1 ht with ht | ht
 ·exact h.ins t ht
 ·exact outsP_mem ht
end

/-- the search in memory -/
structure LQ (W0 w : World) (gs B n : Nat) (seen : List Bool) (tv : Value) (todo : List Int) : Prop where
 below : Below W0.heap.size W0 w
 row : RowB w gs n n seen
 own : OwnI w B tv todo
 g0 : W0.heap.size ≤ gs
 gB : gs < B
 Bw : B ≤ w.heap.size
section
variable {W0 w : World} {gs B n : Nat} {seen : List Bool} {tv : Value} {todo : List Int}
theorem LQ.grow {w' : World} (h : LQ W0 w gs B n seen tv todo) (hb : Below w.heap.size w w') : LQ W0 w' gs B n seen tv todo := by
 have hg : w.grownBy w' none := ⟨hb.os, hb.tape, hb.output, hb.size, fun k hk _ => hb.block k hk⟩
 have h1 := h.g0
 have h2 := h.gB
 have h3 := h.Bw
 exact ⟨h.below.trans (hb.mono (by omega)), h.row.below hb, World.ownsRow.kept h.own hg (by cases tv.ownBlock <;> simp), h.g0, h.gB, Nat.le_trans h.Bw hb.size⟩
theorem LQ.outs {w1 : World} {v : Value} {l : List Int} (h : LQ W0 w gs B n seen tv todo) (hr : RdF w1 w.heap.size v l) : OutsAt w1 B tv (.slice none 0 0) (.slice none 0 0) v l := by
 obtain ⟨⟨a, c, rfl, h2, h3, h4⟩, hf⟩ := hr
 refine ⟨a, c, rfl, h2, h3, fun i hi => ?_⟩
 obtain ⟨b, o, rfl, hc⟩ := h4 i hi
 have hb : w.heap.size ≤ b := hf _ _ _ rfl
 refine ⟨b, o, rfl, Nat.le_trans h.Bw hb, fun e => ?_, by simp [Value.ownBlock], by simp [Value.ownBlock], by simpa using hc⟩
 have := (World.ownsRow.lt h.own b e).2
 omega
theorem LQ.set (h : LQ W0 w gs B n seen tv todo) (i : Nat) : LQ W0 (w.setCell ⟨gs, i, none⟩ (.bool true)) gs B n (seen.set i true) tv todo := by
 have hg : w.grownBy (w.setCell ⟨gs, i, none⟩ (.bool true)) (some gs) := ⟨rfl, rfl, rfl, by simp, fun k _ hk => Below.heap_setCell w ⟨gs, i, none⟩ _ k (fun e => hk (by rw [show k = gs from e]))⟩
 exact ⟨h.below.setCell h.g0 _, OwnB.set h.row i true, World.ownsRow.kept h.own hg (ne_of (row_far h.own h.gB)), h.g0, h.gB, by simpa using h.Bw⟩
end
end Go.Proofs.Ytkhfddodmjnecaa

set_option linter.all false
namespace Go.Proofs.Ytkhfddodmjnecaa
open Go.ChangeShapes Go.WideShapes Go.ChangeAt Go.RowKit
set_option maxHeartbeats 2000000
set_option maxRecDepth 20000

end Go.Proofs.Ytkhfddodmjnecaa

set_option linter.all false
namespace Go.Proofs.Ytkhfddodmjnecaa
open Go.ChangeShapes Go.WideShapes Go.ChangeAt Go.RowKit
set_option maxHeartbeats 2000000
set_option maxRecDepth 20000

end Go.Proofs.Ytkhfddodmjnecaa

set_option linter.all false
namespace Go.Proofs.Ytkhfddodmjnecaa
open Go.RowKit

/-- a word as a signed number -/
def sg (a : Int) : Int := if a < 2147483648 then a else a - 4294967296
/-- shifted to the left by so many -/
def shl32 (a b : Int) : Int := (a * 2 ^ (b % 32).toNat) % 4294967296
def sar32 (a b : Int) : Int := (sg a / 2 ^ (b % 32).toNat) % 4294967296
def divS (a b : Int) : Int := if b = 0 then 4294967295 else ((sg a).tdiv (sg b)) % 4294967296
def remS (a b : Int) : Int := if b = 0 then a else ((sg a).tmod (sg b)) % 4294967296
def lessS (a b : Int) : Int := if sg a < sg b then 1 else 0
/-- a power of two -/
def pw (k : Nat) : Int := 2 ^ k
end Go.Proofs.Ytkhfddodmjnecaa

set_option linter.all false
namespace Go.Proofs.Ytkhfddodmjnecaa
open Go.ChangeShapes Go.WideShapes Go.ChangeAt Go.RowKit
set_option maxHeartbeats 400000
set_option linter.unusedVariables false

theorem wraps_u32 (n : Int) (h₀ : 0 ≤ n) (h₁ : n < 2 ^ 32) : IntKind.u32.wrap n = n := by rw [IntKind.wrap_u32]; omega
theorem u32_and31 (x : Int) (h₀ : 0 ≤ x) (h₁ : x < 4294967296) : bits .and .u32 x 31 = x % 32 := bits_mask .u32 32 (by decide) wraps_u32 5 (by decide) x h₀ h₁
attribute [local go_sem] u32_and31

end Go.Proofs.Ytkhfddodmjnecaa

set_option linter.all false
namespace Go.Proofs.Ytkhfddodmjnecaa
open Go Go.RowKit

def lookB (o : Oper) : Bool :=
 match o.op with
 | .call c => (match c.callee with | .builtin .len | .builtin .max => true | _ => false)
 | _ => false
theorem lookB_spec {P : Program} {o : Oper} {ρ : Operand → Value} {w : World} {n : Next} {w' : World} (h : lookB o = true) (hr : (execOp ρ o).run P w = .ok n w') : ∃ v, n = .value v := by
 unfold lookB at h
 split at h
 ·rename_i c hc
  split at h
  ·rename_i hb
   simp only [execOp, hc, resolve, hb, Sem.run_bind, Sem.run_pure, Result.andThen_ok, invoke] at hr
   exact bind_value hr
  ·rename_i hb
   simp only [execOp, hc, resolve, hb, Sem.run_bind, Sem.run_pure, Result.andThen_ok, invoke] at hr
   exact bind_value hr
  ·cases h
 ·cases h
section
variable {P : Program} {ops : Array Oper} {Q : Act → World → Prop} {S : Nat → Prop}
theorem E_mob2 {f : Nat} {listed : Array Bool} {a : Act} {w : World} (i : Nat) (o : Oper) (hio : ops[i]? = some o)
  (hc : (closedB ops listed && (Region.noSelect ops && (Region.ready .any ops listed).contains i && Region.free .any ops listed i && (lookOp o || lookB o))) = true)
  (h : wpQuiet P ops (fun w' => ∃ x, w' = kp S w x) (fun a' => wpE S P ops Q f (listed.setIfInBounds i true) a' w) [o] a) : wpE S P ops Q (f + 1) listed a w := by
 simp only [Bool.and_eq_true] at hc
 obtain ⟨hcl, ⟨⟨hs, hr⟩, hf⟩, hk⟩ := hc
 simp only [wpQuiet] at h
 have hy : ∃ v, YieldsE S P ops w o v a ∧ wpE S P ops Q f (listed.setIfInBounds i true) (a.put o.dst v) w := by
  split at h
  ·rename_i hw
   obtain ⟨v, hv, hn⟩ := h
   refine ⟨v, .inl ⟨hw, fun w' hb => ?_⟩, hn⟩
   have h3 := hv w' (keep_kp hb)
   unfold Oper.quietAt at h3
   generalize hrr : (execOp a.eval o).run P w' = r at h3
   cases r with
   | ok n w1 =>
    have hu : ∃ v, n = .value v := by
     rw [Bool.or_eq_true] at hk
     rcases hk with hk | hk
     ·exact lookOp_spec hk hrr
     ·exact lookB_spec hk hrr
    obtain ⟨u, rfl⟩ := hu
    simp only [Oper.quietUpon] at h3
    obtain ⟨rfl, rfl⟩ := h3
    rfl
   | halt x w1 => simp only [Oper.quietUpon] at h3
  ·rename_i hw
   exact ⟨undef, .inr ⟨by simpa using hw, rfl⟩, h⟩
 obtain ⟨v, hy, hn⟩ := hy
 exact wpE_first hio (Region.noSelect_spec hs) f listed a w (Region.free_spec hio hf) (closed_of hcl) (by simpa using hr) hy hn
end
end Go.Proofs.Ytkhfddodmjnecaa
