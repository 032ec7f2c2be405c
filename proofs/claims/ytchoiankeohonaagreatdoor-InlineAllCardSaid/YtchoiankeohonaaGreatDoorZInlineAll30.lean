/-
 A walk through the blocks as plain data: by calling itself, and with a stack.; How a walk through the blocks lies in memory, and what each of its stores and appends makes of it.; Contract of flow's walk into a block.; Contract of slices.Reverse at lists of integers of the call's own.; Contracts of flow's walk through a procedure, and of what it tells: the order, and where ends lead back.; Contracts of flow's Order, Back and Reach.; Whether a register is live at a place of a block, by going all ways on; how this search lies in memory.; Contract of the reference's Live.; Contract of the statements' same.; Contract of flow's Reach.; Contract of flow's Reach.
-/
import Derived.Test.YtchoiankeohonaaGreatDoorZInlineAll29
import Derived.Maps.AppendAt
import Derived.Laws.OwnMore
import Derived.Test.YtchoiankeohonaaGreatDoorZInlineAll04

set_option linter.all false
namespace Go.Proofs.YtchoiankeohonaaGreatDoor
open Go.ChangeShapes Go.WideShapes Go.ChangeAt Go.RowKit

/-- what a walk has gathered: how it stands to each block, those left, and where ends lead back -/
structure S3 where
 st : List Int
 ord : List Int
 back : List (Int × Int)
def S3.enter (s : S3) (n : Int) : S3 := { s with st := s.st.set n.toNat 1 }
def S3.leave (s : S3) (n : Int) : S3 := { s with st := s.st.set n.toNat 2, ord := s.ord ++ [n] }
def S3.loop (s : S3) (n t : Int) : S3 := { s with back := s.back ++ [(n, t)] }
def S3.look (s : S3) (n : Int) : Int := s.st.getD n.toNat 0
def S3.zeros (s : S3) : Nat := s.st.count 0
/-- into a block, on, and out -/
def rI (p : Pr) : Nat → Int → S3 → S3
 | 0, _, s => s
 | f + 1, n, s => ((outsP p n.toNat).foldl (fun s t => if s.look t = 1 then s.loop n t else if s.look t = 0 then rI p f t s else s) (s.enter n)).leave n
/-- one way on -/
def hI (p : Pr) (f : Nat) (n : Int) (s : S3) (t : Int) : S3 := if s.look t = 1 then s.loop n t else if s.look t = 0 then rI p f t s else s
theorem leave_len (s : S3) (n : Int) : (s.leave n).st.length = s.st.length := by simp [S3.leave]
theorem outsP_mem {p : Pr} {n : Nat} {t : Int} (h : t ∈ outsP p n) : 0 ≤ t ∧ t < p.blks.length := by
 unfold outsP at h
 simpa using (List.mem_filter.1 h).2
theorem zeros_set_le (l : List Int) (i : Nat) (x : Int) (hx : x ≠ 0) : (l.set i x).count 0 ≤ l.count 0 := by
 by_cases h : i < l.length
 ·rw [List.count_set h]
  have : (x == (0 : Int)) = false := by simpa using hx
  simp [this]
 ·rw [List.set_eq_of_length_le (by omega)]; exact Nat.le_refl _
theorem zeros_leave_le (s : S3) (n : Int) : (s.leave n).zeros ≤ s.zeros := zeros_set_le _ _ _ (by decide)
/-- where a walk stands: a block, the ways on that are left, and how these lie in memory -/
structure Kt where
 n : Int
 l : List Int
 v : Value
def gK (p : Pr) (f : Nat) (k : Kt) (s : S3) : S3 := (k.l.foldl (hI p f k.n) s).leave k.n
/-- what comes of a stack -/
def contD (p : Pr) (f : Nat) (S : List Kt) (s : S3) : S3 := S.foldr (gK p f) s
theorem contD_leave (p : Pr) (f : Nat) (S : List Kt) (n : Int) (v : Value) (s : S3) : contD p f (S ++ [⟨n, [], v⟩]) s = contD p f S (s.leave n) := by
 unfold contD; rw [List.foldr_append]; rfl
theorem contD_step (p : Pr) (f : Nat) (S : List Kt) (n t : Int) (l : List Int) (v v' : Value) (s : S3) : contD p f (S ++ [⟨n, t :: l, v⟩]) s = contD p f (S ++ [⟨n, l, v'⟩]) (hI p f n s t) := by
 unfold contD; rw [List.foldr_append, List.foldr_append]; rfl
/-- how much there is left to do -/
def todo (S : List Kt) (s : S3) : Nat := (S.map fun k => k.l.length + 1).sum + 4 * s.zeros
theorem todo_leave (S : List Kt) (n : Int) (v : Value) (s : S3) : todo S (s.leave n) < todo (S ++ [⟨n, [], v⟩]) s := by
 have := zeros_leave_le s n
 unfold todo
 simp
 omega
theorem todo_old (S : List Kt) (n t : Int) (l : List Int) (v v' : Value) (s s' : S3) (h : s'.zeros = s.zeros) : todo (S ++ [⟨n, l, v'⟩]) s' < todo (S ++ [⟨n, t :: l, v⟩]) s := by
 unfold todo
 simp
 omega
end Go.Proofs.YtchoiankeohonaaGreatDoor

set_option linter.all false
namespace Go.Proofs.YtchoiankeohonaaGreatDoor
open Go.ChangeShapes Go.WideShapes Go.ChangeAt Go.RowKit
set_option maxHeartbeats 400000
set_option maxRecDepth 10000

/-- a row from block B on is not in a block below B -/
theorem row_far {w : World} {B s n g : Nat} {e : TypeId} {v : Value} {xs : List Value} (h : w.ownsRow B e s v n xs) (hg : g < B) : v.ownBlock ≠ some g := fun e => by
 have := (h.lt g e).1
 omega
/-- the row of a value after a step: as it was, or new -/
def NewB (w : World) (v v' : Value) : Prop := v'.ownBlock = v.ownBlock ∨ ∃ h, w.heap.size ≤ h ∧ v'.ownBlock = some h
/-- a list that can be read, in no block that the walk writes -/
def OutsAt (w : World) (B : Nat) (ov bv tv v : Value) (l : List Int) : Prop :=
 ∃ a c, v = .slice a l.length c ∧ l.length ≤ c ∧ c ≤ maxLen ∧ ∀ i, i < l.length → ∃ b o, a = some ⟨b, o, none⟩ ∧ B ≤ b ∧ ov.ownBlock ≠ some b ∧ bv.ownBlock ≠ some b ∧ tv.ownBlock ≠ some b ∧ w.cell? ⟨b, o + i, none⟩ = some (.int .i64 (l.getD i 0))
theorem OutsAt.kept {w w' : World} {B : Nat} {ov bv tv v ov' bv' tv' : Value} {l : List Int} {row : Option Nat} (h : OutsAt w B ov bv tv v l) (hg : w.grownBy w' row)
  (hr : ∀ b, row = some b → ov.ownBlock = some b ∨ bv.ownBlock = some b ∨ tv.ownBlock = some b ∨ b < B) (n1 : NewB w ov ov') (n2 : NewB w bv bv') (n3 : NewB w tv tv') : OutsAt w' B ov' bv' tv' v l := by
 obtain ⟨a, c, h1, h2, h3, h4⟩ := h
 refine ⟨a, c, h1, h2, h3, fun i hi => ?_⟩
 obtain ⟨b, o, e, hB, k1, k2, k3, hc⟩ := h4 i hi
 have hb : b < w.heap.size := World.block_lt_of_cell? w _ hc
 have far : ∀ x x' : Value, x.ownBlock ≠ some b → NewB w x x' → x'.ownBlock ≠ some b := fun x x' hx hn => by
  rcases hn with e | ⟨k, hk, e⟩
  ·rw [e]; exact hx
  ·rw [e]; intro e2; simp only [Option.some.injEq] at e2; omega
 refine ⟨b, o, e, hB, far _ _ k1 n1, far _ _ k2 n2, far _ _ k3 n3, hg.cell hc fun e2 => ?_⟩
 rcases hr b e2.symm with h | h | h | h
 ·exact k1 h
 ·exact k2 h
 ·exact k3 h
 ·omega

theorem grown_belG {B : Nat} {w0 w w' : World} {row : Option Nat} (h : Below B w0 w) (hB : B ≤ w.heap.size) (hg : w.grownBy w' row) (hr : ∀ b, row = some b → B ≤ b) : Below B w0 w' :=
 ⟨hg.os.trans h.os, hg.tape.trans h.tape, hg.output.trans h.output, Nat.le_trans h.size hg.size, fun k hk => (hg.block k (by omega) (fun e => by have := hr k e.symm; omega)).trans (h.block k hk)⟩
section
variable {wp w : World} {bw bs B n : Nat} {hd : List Value} {s : S3} {ov bv tv : Value} {S : List Kt}
theorem ne_of {v : Value} {g : Nat} (h : v.ownBlock ≠ some g) : v.ownBlock = none ∨ v.ownBlock ≠ some g := .inr h
end
end Go.Proofs.YtchoiankeohonaaGreatDoor

set_option linter.all false
namespace Go.Proofs.YtchoiankeohonaaGreatDoor
open Go.ChangeShapes Go.WideShapes Go.ChangeAt Go.RowKit
set_option maxHeartbeats 2000000
set_option maxRecDepth 20000

/-- so far a walk has come, with what is still to do -/
structure WkI (p : Pr) (f : Nat) (R : S3) (s : S3) (S : List Kt) : Prop where
 res : contD p f S s = R
 len : s.st.length = p.blks.length
 fuel : s.zeros ≤ f
 room : s.ord.length + s.back.length + todo S s ≤ 10000000
 ins : ∀ k ∈ S, (0 ≤ k.n ∧ k.n < p.blks.length) ∧ ∀ t ∈ k.l, 0 ≤ t ∧ t < p.blks.length
theorem WkI.leave {p : Pr} {f : Nat} {R s : S3} {S : List Kt} {n : Int} {v : Value} (h : WkI p f R s (S ++ [⟨n, [], v⟩])) : WkI p f R (s.leave n) S := by
 have h1 := todo_leave S n v s
 have h2 := h.room
 refine ⟨by rw [← contD_leave p f S n v s]; exact h.res, by rw [leave_len]; exact h.len, Nat.le_trans (zeros_leave_le _ _) h.fuel, ?_, fun k hk => h.ins k (List.mem_append_left _ hk)⟩
 show (s.ord ++ [n]).length + s.back.length + _ ≤ _
 simp
 omega
theorem hI_back {p : Pr} {f : Nat} {n t : Int} {s : S3} (h1 : s.look t = 1) : hI p f n s t = s.loop n t := by unfold hI; rw [if_pos h1]
theorem WkI.tail {p : Pr} {f : Nat} {R s : S3} {S : List Kt} {n t : Int} {l : List Int} {v v' : Value} (h : WkI p f R s (S ++ [⟨n, t :: l, v⟩])) : ∀ k ∈ S ++ [(⟨n, l, v'⟩ : Kt)], (0 ≤ k.n ∧ k.n < (p.blks.length : Int)) ∧ ∀ t ∈ k.l, 0 ≤ t ∧ t < (p.blks.length : Int) := fun k hk => by
 rcases List.mem_append.1 hk with hk | hk
 ·exact h.ins k (List.mem_append_left _ hk)
 ·rw [List.mem_singleton.1 hk]
  have := h.ins _ (List.mem_append_right _ (List.mem_singleton_self _))
  exact ⟨this.1, fun t ht => this.2 t (List.mem_cons_of_mem _ ht)⟩
theorem WkI.back {p : Pr} {f : Nat} {R s : S3} {S : List Kt} {n t : Int} {l : List Int} {v : Value} (v' : Value) (h : WkI p f R s (S ++ [⟨n, t :: l, v⟩])) (h1 : s.look t = 1) : WkI p f R (s.loop n t) (S ++ [⟨n, l, v'⟩]) := by
 have h2 := todo_old S n t l v v' s (s.loop n t) rfl
 have h3 := h.room
 have h4 := h.res
 rw [contD_step p f S n t l v v', hI_back h1] at h4
 refine ⟨h4, h.len, h.fuel, ?_, h.tail⟩
 show s.ord.length + (s.back ++ [(n, t)]).length + _ ≤ _
 simp
 omega
theorem grown_cell {w w' : World} {row : Option Nat} (hg : w.grownBy w' row) {b o : Nat} (hb : b < w.heap.size) (hr : row ≠ some b) : w'.cell? ⟨b, o, none⟩ = w.cell? ⟨b, o, none⟩ := World.cell?_of_block (w := w) (a := ⟨b, o, none⟩) (hg.block b hb (fun e => hr e.symm))
theorem row_form {w : World} {B n sz : Nat} {e : TypeId} {v : Value} {xs : List Value} (h : w.ownsRow B e sz v n xs) : ∃ a c, v = .slice a n c := by
 obtain ⟨-, ⟨rfl, rfl⟩ | ⟨g, cap, cur, rfl, -⟩⟩ := h
 ·exact ⟨none, 0, rfl⟩
 ·exact ⟨_, cap, rfl⟩
end Go.Proofs.YtchoiankeohonaaGreatDoor

set_option linter.all false
namespace Go.Proofs.YtchoiankeohonaaGreatDoor
open Go.ChangeShapes Go.WideShapes Go.ChangeAt Go.RowKit
set_option maxHeartbeats 2000000
set_option maxRecDepth 20000

end Go.Proofs.YtchoiankeohonaaGreatDoor

set_option linter.all false
namespace Go.Proofs.YtchoiankeohonaaGreatDoor
open Go.ChangeShapes Go.WideShapes Go.ChangeAt Go.RowKit
set_option maxHeartbeats 2000000
set_option maxRecDepth 20000

end Go.Proofs.YtchoiankeohonaaGreatDoor

set_option linter.all false
namespace Go.Proofs.YtchoiankeohonaaGreatDoor
open Go.ChangeShapes Go.WideShapes Go.ChangeAt Go.RowKit
set_option maxHeartbeats 2000000
set_option maxRecDepth 20000

end Go.Proofs.YtchoiankeohonaaGreatDoor

set_option linter.all false
namespace Go.Proofs.YtchoiankeohonaaGreatDoor
open Go.ChangeShapes Go.WideShapes Go.ChangeAt Go.RowKit
set_option maxHeartbeats 2000000
set_option maxRecDepth 20000

/-- the search, with the blocks that are still to be gone into -/
def lvQ (p : Pr) (r : Int) : Nat → List Bool → List Int → Bool
 | 0, _, _ => false
 | _ + 1, _, [] => false
 | f + 1, seen, b :: q =>
  if seen.getD b.toNat false = true then lvQ p r f seen q
  else if withinB (p.blks.getD b.toNat default) 0 r = 1 then true
  else if withinB (p.blks.getD b.toNat default) 0 r = 0 then lvQ p r f (seen.set b.toNat true) (q ++ outsP p b.toNat)
  else lvQ p r f (seen.set b.toNat true) q
/-- is a register live at a place of a block? -/
def liveP (p : Pr) (n k : Nat) (r : Int) : Bool :=
 if 0 < withinB (p.blks.getD n default) k r then decide (withinB (p.blks.getD n default) k r = 1) else lvQ p r (2 + 3 * p.blks.length) (List.replicate p.blks.length false) (outsP p n)
theorem count_set_false (l : List Bool) (i : Nat) (h : i < l.length) (h0 : l.getD i false = false) : (l.set i true).count false + 1 = l.count false := by
 have h1 : l[i] = false := by simpa [List.getD, h] using h0
 have h2 : 0 < l.count false := List.count_pos_iff.2 (h1 ▸ List.getElem_mem h)
 rw [List.count_set h]
 simp [h1]
 omega
section
variable {p : Pr} {r : Int} {R : Bool} {f : Nat} {seen : List Bool} {todo : List Int} {k : Nat}
end

/-- the search in memory -/
structure LQ (W0 w : World) (gs B n : Nat) (seen : List Bool) (tv : Value) (todo : List Int) : Prop where
 below : Below W0.heap.size W0 w
 row : RowB w gs n n seen
 own : OwnI w B tv todo
 g0 : W0.heap.size ≤ gs
 gB : gs < B
 Bw : B ≤ w.heap.size
section
variable {W0 w : World} {gs B n : Nat} {seen : List Bool} {tv : Value} {todo : List Int}
theorem LQ.grow {w' : World} (h : LQ W0 w gs B n seen tv todo) (hb : Below w.heap.size w w') : LQ W0 w' gs B n seen tv todo := by
 have hg : w.grownBy w' none := ⟨hb.os, hb.tape, hb.output, hb.size, fun k hk _ => hb.block k hk⟩
 have h1 := h.g0
 have h2 := h.gB
 have h3 := h.Bw
 exact ⟨h.below.trans (hb.mono (by omega)), h.row.below hb, World.ownsRow.kept h.own hg (by cases tv.ownBlock <;> simp), h.g0, h.gB, Nat.le_trans h.Bw hb.size⟩
theorem LQ.set (h : LQ W0 w gs B n seen tv todo) (i : Nat) : LQ W0 (w.setCell ⟨gs, i, none⟩ (.bool true)) gs B n (seen.set i true) tv todo := by
 have hg : w.grownBy (w.setCell ⟨gs, i, none⟩ (.bool true)) (some gs) := ⟨rfl, rfl, rfl, by simp, fun k _ hk => Below.heap_setCell w ⟨gs, i, none⟩ _ k (fun e => hk (by rw [show k = gs from e]))⟩
 exact ⟨h.below.setCell h.g0 _, OwnB.set h.row i true, World.ownsRow.kept h.own hg (ne_of (row_far h.own h.gB)), h.g0, h.gB, by simpa using h.Bw⟩
end
end Go.Proofs.YtchoiankeohonaaGreatDoor

set_option linter.all false
namespace Go.Proofs.YtchoiankeohonaaGreatDoor
open Go.ChangeShapes Go.WideShapes Go.ChangeAt Go.RowKit
set_option maxHeartbeats 2000000
set_option maxRecDepth 20000

end Go.Proofs.YtchoiankeohonaaGreatDoor

set_option linter.all false
namespace Go.Proofs.YtchoiankeohonaaGreatDoor
open Go.ChangeShapes Go.WideShapes Go.ChangeAt Go.RowKit
set_option maxHeartbeats 2000000
set_option maxRecDepth 20000

end Go.Proofs.YtchoiankeohonaaGreatDoor

set_option linter.all false
namespace Go.Proofs.YtchoiankeohonaaGreatDoor
open Go.ChangeShapes Go.WideShapes Go.ChangeAt Go.RowKit
set_option maxHeartbeats 2000000
set_option maxRecDepth 20000

end Go.Proofs.YtchoiankeohonaaGreatDoor

set_option linter.all false
namespace Go.Proofs.YtchoiankeohonaaGreatDoor
open Go.ChangeShapes Go.WideShapes Go.ChangeAt Go.RowKit
set_option maxHeartbeats 2000000
set_option maxRecDepth 20000

end Go.Proofs.YtchoiankeohonaaGreatDoor
