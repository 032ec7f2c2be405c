/-
  Contracts of flow's Order, Back and Reach.; Whether a register is live at a place of a block, by going all ways on; how this search lies in memory.
-/
import Derived.Test.YtnnhobbabcfogaaZDeadIdle15

set_option linter.all false
namespace Go.Proofs.Ytnnhobbabcfogaa
open Go.ChangeShapes Go.WideShapes Go.ChangeAt Go.RowKit
set_option maxHeartbeats 2000000
set_option maxRecDepth 20000

/-- pairs in a row of the call's own, handed back -/
def RetP (w : World) (l : List (Int × Int)) (e : Ending) (w' : World) : Prop := ∃ v, e = .returned v ∧ w'.ownsRow w.heap.size 137 2 v l.length (pairsV l) ∧ Below w.heap.size w w'
theorem ownsRow_base {w : World} {B B' n s : Nat} {e : TypeId} {v : Value} {xs : List Value} (h : w.ownsRow B e s v n xs) (hB : B' ≤ B) : w.ownsRow B' e s v n xs := by
  obtain ⟨h1, h2 | ⟨g, cap, cur, h3, hb, r⟩⟩ := h
  · exact ⟨h1, .inl h2⟩
  · exact ⟨h1, .inr ⟨g, cap, cur, h3, Nat.le_trans hB hb, r⟩⟩
theorem order_c (p : Pr) (V : Value) (w : World) (hP : PrV w V p) (hlen : p.blks.length ≤ 1000000) :
    Calls Try.prog 84 #[V] w (RetI w (wkD p).ord.reverse) := by
  have EW : Hid (∀ o, Calls Try.prog 104 #[V] (w.alloc o) (WkR (w.alloc o) p)) := fun o => walked_c p V _ (hP.ext (Ext.alloc w o)) hlen
  obtain ⟨nm, vo, vb, rfl, -, a, c, rfl, -, -, -⟩ := hP
  go_enter Try.func84, Try.ntmps84
  go_wp2_with (go_at_call 104; refine (EW.out _).mono ?_; rintro e w1 ⟨bw, bs, B, ov, bv, tv, hd, s, rfl, M, ho, hb, hr⟩; have M := Lib.hid M; have q7 : w1.cell? ⟨bw, 7, none⟩ = some ov := (M.out.wk.cellAt 7 (by decide)).trans (by rw [List.getElem?_append_right (by rw [M.out.hd6]; decide), M.out.hd6]; rfl))
  go_ret
  refine ⟨_, rfl, ?_, ?_⟩
  · rw [← ho]
    exact ownsRow_base M.out.ord (Nat.le_trans (by simp) M.out.pB)
  · exact (below_alloc w _).trans (M.out.below.mono (by simp))
theorem back_c (p : Pr) (V : Value) (w : World) (hP : PrV w V p) (hlen : p.blks.length ≤ 1000000) :
    Calls Try.prog 85 #[V] w (RetP w (wkD p).back) := by
  have EW : Hid (∀ o, Calls Try.prog 104 #[V] (w.alloc o) (WkR (w.alloc o) p)) := fun o => walked_c p V _ (hP.ext (Ext.alloc w o)) hlen
  obtain ⟨nm, vo, vb, rfl, -, a, c, rfl, -, -, -⟩ := hP
  go_enter Try.func85, Try.ntmps85
  go_wp2_with (go_at_call 104; refine (EW.out _).mono ?_; rintro e w1 ⟨bw, bs, B, ov, bv, tv, hd, s, rfl, M, ho, hb, hr⟩; have M := Lib.hid M; have q8 : w1.cell? ⟨bw, 8, none⟩ = some bv := (M.out.wk.cellAt 8 (by decide)).trans (by rw [List.getElem?_append_right (by rw [M.out.hd6]; decide), M.out.hd6]; rfl))
  go_ret
  refine ⟨_, rfl, ?_, ?_⟩
  · rw [← hb]
    exact ownsRow_base M.out.back (Nat.le_trans (by simp) M.out.pB)
  · exact (below_alloc w _).trans (M.out.below.mono (by simp))
end Go.Proofs.Ytnnhobbabcfogaa

set_option linter.all false
namespace Go.Proofs.Ytnnhobbabcfogaa
open Go.ChangeShapes Go.WideShapes Go.ChangeAt Go.RowKit
set_option maxHeartbeats 2000000
set_option maxRecDepth 20000

/-- the search, with the blocks that are still to be gone into -/
def lvQ (p : Pr) (r : Int) : Nat → List Bool → List Int → Bool
  | 0, _, _ => false
  | _ + 1, _, [] => false
  | f + 1, seen, b :: q =>
    if seen.getD b.toNat false = true then lvQ p r f seen q
    else if withinB (p.blks.getD b.toNat default) 0 r = 1 then true
    else if withinB (p.blks.getD b.toNat default) 0 r = 0 then lvQ p r f (seen.set b.toNat true) (q ++ outsP p b.toNat)
    else lvQ p r f (seen.set b.toNat true) q
/-- is a register live at a place of a block? -/
def liveP (p : Pr) (n k : Nat) (r : Int) : Bool :=
  if 0 < withinB (p.blks.getD n default) k r then decide (withinB (p.blks.getD n default) k r = 1) else lvQ p r (2 + 3 * p.blks.length) (List.replicate p.blks.length false) (outsP p n)
/-- how far the search has come -/
structure LvQ (p : Pr) (r : Int) (R : Bool) (f : Nat) (seen : List Bool) (todo : List Int) (k : Nat) : Prop where
  res : lvQ p r f seen (todo.drop k) = R
  le : k ≤ todo.length
  len : seen.length = p.blks.length
  fuel : todo.length - k + 3 * seen.count false ≤ f
  room : todo.length + 2 * seen.count false ≤ 2 + 2 * p.blks.length
  ins : ∀ t ∈ todo, 0 ≤ t ∧ t < p.blks.length
theorem count_set_false (l : List Bool) (i : Nat) (h : i < l.length) (h0 : l.getD i false = false) : (l.set i true).count false + 1 = l.count false := by
  have h1 : l[i] = false := by simpa [List.getD, h] using h0
  have h2 : 0 < l.count false := List.count_pos_iff.2 (h1 ▸ List.getElem_mem h)
  rw [List.count_set h]
  simp [h1]
  omega
theorem LvQ.start (p : Pr) (r : Int) (n : Nat) : LvQ p r (lvQ p r (2 + 3 * p.blks.length) (List.replicate p.blks.length false) (outsP p n)) (2 + 3 * p.blks.length) (List.replicate p.blks.length false) (outsP p n) 0 := by
  have := outsP_len p n
  refine ⟨rfl, by omega, by simp, ?_, ?_, fun t ht => outsP_mem ht⟩
  · simp [List.count_replicate_self]; omega
  · simp [List.count_replicate_self]; omega
section
variable {p : Pr} {r : Int} {R : Bool} {f : Nat} {seen : List Bool} {todo : List Int} {k : Nat}
theorem LvQ.done (h : LvQ p r R f seen todo k) (hk : ¬ k < todo.length) : R = false := by
  have h1 := h.res
  rw [List.drop_eq_nil_of_le (by omega)] at h1
  rw [← h1]
  cases f <;> rfl
theorem LvQ.cons (h : LvQ p r R f seen todo k) (hk : k < todo.length) : ∃ f', f = f' + 1 ∧ (0 ≤ todo.getD k 0 ∧ todo.getD k 0 < p.blks.length) ∧ lvQ p r (f' + 1) seen (todo.getD k 0 :: todo.drop (k + 1)) = R := by
  have h1 := h.fuel
  refine ⟨f - 1, by omega, h.ins _ (by simp [List.getD, hk]), ?_⟩
  have h2 := h.res
  rw [List.drop_eq_getElem_cons hk] at h2
  rw [show f - 1 + 1 = f by omega]
  simpa [List.getD, hk] using h2
theorem LvQ.old (h : LvQ p r R f seen todo k) (hk : k < todo.length) (hs : seen.getD (todo.getD k 0).toNat false = true) : ∃ f', f' < f ∧ LvQ p r R f' seen todo (k + 1) := by
  obtain ⟨f', rfl, -, h1⟩ := h.cons hk
  have h2 := h.fuel
  unfold lvQ at h1
  rw [if_pos hs] at h1
  exact ⟨f', Nat.lt_succ_self _, h1, hk, h.len, by omega, h.room, h.ins⟩
theorem LvQ.yes (h : LvQ p r R f seen todo k) (hk : k < todo.length) (hs : seen.getD (todo.getD k 0).toNat false = false) (hw : withinB (p.blks.getD (todo.getD k 0).toNat default) 0 r = 1) : R = true := by
  obtain ⟨f', rfl, -, h1⟩ := h.cons hk
  unfold lvQ at h1
  rw [if_neg (by rw [hs]; decide), if_pos hw] at h1
  exact h1.symm
theorem LvQ.more (h : LvQ p r R f seen todo k) (hk : k < todo.length) (hs : seen.getD (todo.getD k 0).toNat false = false) (hw : withinB (p.blks.getD (todo.getD k 0).toNat default) 0 r = 0) : ∃ f', f' < f ∧ LvQ p r R f' (seen.set (todo.getD k 0).toNat true) (todo ++ outsP p (todo.getD k 0).toNat) (k + 1) := by
  obtain ⟨f', rfl, ht, h1⟩ := h.cons hk
  have h2 := h.fuel
  have h3 := h.room
  have h4 := count_set_false seen (todo.getD k 0).toNat (by rw [h.len]; omega) hs
  have h5 := outsP_len p (todo.getD k 0).toNat
  unfold lvQ at h1
  rw [if_neg (by rw [hs]; decide), if_neg (by rw [hw]; decide), if_pos hw] at h1
  refine ⟨f', Nat.lt_succ_self _, by rw [List.drop_append_of_le_length (by omega)]; exact h1, by rw [List.length_append]; omega, by simpa using h.len, by rw [List.length_append]; omega, by rw [List.length_append]; omega, fun t ht => ?_⟩
  rcases List.mem_append.1 ht with ht | ht
  · exact h.ins t ht
  · exact outsP_mem ht
theorem LvQ.stop (h : LvQ p r R f seen todo k) (hk : k < todo.length) (hs : seen.getD (todo.getD k 0).toNat false = false) (hw : withinB (p.blks.getD (todo.getD k 0).toNat default) 0 r ≠ 1) (hw' : withinB (p.blks.getD (todo.getD k 0).toNat default) 0 r ≠ 0) : ∃ f', f' < f ∧ LvQ p r R f' (seen.set (todo.getD k 0).toNat true) todo (k + 1) := by
  obtain ⟨f', rfl, ht, h1⟩ := h.cons hk
  have h2 := h.fuel
  have h3 := h.room
  have h4 := count_set_false seen (todo.getD k 0).toNat (by rw [h.len]; omega) hs
  unfold lvQ at h1
  rw [if_neg (by rw [hs]; decide), if_neg hw, if_neg hw'] at h1
  exact ⟨f', Nat.lt_succ_self _, h1, hk, by simpa using h.len, by omega, by omega, h.ins⟩
end

/-- the search in memory -/
structure LQ (W0 w : World) (gs B n : Nat) (seen : List Bool) (tv : Value) (todo : List Int) : Prop where
  below : Below W0.heap.size W0 w
  row : RowB w gs n n seen
  own : OwnI w B tv todo
  g0 : W0.heap.size ≤ gs
  gB : gs < B
  Bw : B ≤ w.heap.size
section
variable {W0 w : World} {gs B n : Nat} {seen : List Bool} {tv : Value} {todo : List Int}
theorem LQ.grow {w' : World} (h : LQ W0 w gs B n seen tv todo) (hb : Below w.heap.size w w') : LQ W0 w' gs B n seen tv todo := by
  have hg : w.grownBy w' none := ⟨hb.os, hb.tape, hb.output, hb.size, fun k hk _ => hb.block k hk⟩
  have h1 := h.g0
  have h2 := h.gB
  have h3 := h.Bw
  exact ⟨h.below.trans (hb.mono (by omega)), h.row.below hb, World.ownsRow.kept h.own hg (by cases tv.ownBlock <;> simp), h.g0, h.gB, Nat.le_trans h.Bw hb.size⟩
theorem LQ.outs {w1 : World} {v : Value} {l : List Int} (h : LQ W0 w gs B n seen tv todo) (hr : RdF w1 w.heap.size v l) : OutsAt w1 B tv (.slice none 0 0) (.slice none 0 0) v l := by
  obtain ⟨⟨a, c, rfl, h2, h3, h4⟩, hf⟩ := hr
  refine ⟨a, c, rfl, h2, h3, fun i hi => ?_⟩
  obtain ⟨b, o, rfl, hc⟩ := h4 i hi
  have hb : w.heap.size ≤ b := hf _ _ _ rfl
  refine ⟨b, o, rfl, Nat.le_trans h.Bw hb, fun e => ?_, by simp [Value.ownBlock], by simp [Value.ownBlock], by simpa using hc⟩
  have := (World.ownsRow.lt h.own b e).2
  omega
theorem LQ.set (h : LQ W0 w gs B n seen tv todo) (i : Nat) : LQ W0 (w.setCell ⟨gs, i, none⟩ (.bool true)) gs B n (seen.set i true) tv todo := by
  have hg : w.grownBy (w.setCell ⟨gs, i, none⟩ (.bool true)) (some gs) := ⟨rfl, rfl, rfl, by simp, fun k _ hk => Below.heap_setCell w ⟨gs, i, none⟩ _ k (fun e => hk (by rw [show k = gs from e]))⟩
  exact ⟨h.below.setCell h.g0 _, OwnB.set h.row i true, World.ownsRow.kept h.own hg (ne_of (row_far h.own h.gB)), h.g0, h.gB, by simpa using h.Bw⟩
theorem LQ.app {w' : World} {tv' : Value} {x : Int} (h : LQ W0 w gs B n seen tv todo) (hg : w.grownBy w' tv.ownBlock) (ho : w'.ownsRow B 3 1 tv' (todo.length + 1) (todo.map (Value.int .i64) ++ [.int .i64 x])) : LQ W0 w' gs B n seen tv' (todo ++ [x]) := by
  have fr : ∀ b, tv.ownBlock = some b → B ≤ b := fun b e => (World.ownsRow.lt h.own b e).1
  have h1 := h.g0
  have h2 := h.gB
  refine ⟨grown_belG h.below (Nat.le_trans (by omega) h.Bw) hg (fun b e => by have := fr b e; omega), World.ownsRow.kept h.row hg (.inr (fun e => by have := fr gs e.symm; omega)), ?_, h.g0, h.gB, Nat.le_trans h.Bw hg.size⟩
  unfold OwnI
  simpa using ho
end
end Go.Proofs.Ytnnhobbabcfogaa
