/-
 Contracts of flow's walk through a procedure, and of what it tells: the order, and where ends lead back.; Contracts of flow's Order, Back and Reach.; Whether a register is live at a place of a block, by going all ways on; how this search lies in memory.
-/
import Derived.Test.YtnnhobbabcfogaaDoorZDeadDrops11

set_option linter.all false
namespace Go.Proofs.YtnnhobbabcfogaaDoor
open Go.ChangeShapes Go.WideShapes Go.ChangeAt Go.RowKit
set_option maxHeartbeats 2000000
set_option maxRecDepth 20000

/-- a walk that has not begun -/
def wk0 (p : Pr) : S3 := ⟨List.replicate p.blks.length 0, [], []⟩
/-- the walk through a procedure -/
def wkD (p : Pr) : S3 := rI p p.blks.length 0 (wk0 p)
theorem wk0_zeros (p : Pr) : (wk0 p).zeros = p.blks.length := by simp [wk0, S3.zeros, List.count_replicate_self]
/-- what a walk has gathered, and may gather yet -/
def phi (s : S3) : Nat := s.ord.length + s.back.length + 4 * s.zeros
theorem hI_phi (p : Pr) (f : Nat) (n : Int) (ih : ∀ t s, s.st.length = p.blks.length → t.toNat < p.blks.length → s.look t = 0 → phi (rI p f t s) ≤ phi s) (s : S3) (t : Int) (hs : s.st.length = p.blks.length) (ht : t.toNat < p.blks.length) : phi (hI p f n s t) ≤ phi s + 1 := by
 unfold hI
 split
 ·simp [phi, S3.loop, S3.zeros]; omega
 ·split
  ·exact Nat.le_succ_of_le (ih t s hs ht ‹_›)
  ·omega
theorem foldl_phi (p : Pr) (f : Nat) (n : Int) (ih : ∀ t s, s.st.length = p.blks.length → t.toNat < p.blks.length → s.look t = 0 → phi (rI p f t s) ≤ phi s) : ∀ (l : List Int) (s : S3), s.st.length = p.blks.length → (∀ t ∈ l, 0 ≤ t ∧ t < p.blks.length) → phi (l.foldl (hI p f n) s) ≤ phi s + l.length
 | [], _, _, _ => Nat.le_refl _
 | t :: l, s, hs, hl => by
  have h1 := hl t List.mem_cons_self
  have h2 := hI_phi p f n ih s t hs (by omega)
  have h3 := foldl_phi p f n ih l (hI p f n s t) (by rw [hI_len]; exact hs) (fun x hx => hl x (List.mem_cons_of_mem _ hx))
  rw [List.foldl_cons, List.length_cons]
  omega
theorem rI_phi (p : Pr) : ∀ (f : Nat) (n : Int) (s : S3), s.st.length = p.blks.length → n.toNat < p.blks.length → s.look n = 0 → phi (rI p f n s) ≤ phi s
 | 0, _, _, _, _, _ => Nat.le_refl _
 | f + 1, n, s, hs, hn, h0 => by
  have h1 := zeros_enter s n (by omega) h0
  have h2 := foldl_phi p f n (rI_phi p f) (outsP p n.toNat) (s.enter n) (by rw [enter_len]; exact hs) (fun t ht => outsP_mem ht)
  have h3 := outsP_len p n.toNat
  rw [rI_succ]
  generalize (outsP p n.toNat).foldl (hI p f n) (s.enter n) = s2 at *
  have h4 := zeros_leave_le s2 n
  have e1 : phi (s.enter n) + 4 = phi s := by
   have e : (s.enter n).ord = s.ord ∧ (s.enter n).back = s.back := ⟨rfl, rfl⟩
   unfold phi
   rw [e.1, e.2]
   omega
  have e2 : phi (s2.leave n) ≤ phi s2 + 1 := by
   have e : (s2.leave n).ord.length = s2.ord.length + 1 ∧ (s2.leave n).back = s2.back := ⟨by simp [S3.leave], rfl⟩
   unfold phi
   rw [e.1, e.2]
   omega
  omega
theorem wkD_phi (p : Pr) : phi (wkD p) ≤ 4 * p.blks.length := by
 have h : phi (wk0 p) = 4 * p.blks.length := by unfold phi; rw [wk0_zeros]; simp [wk0]
 rcases Nat.eq_zero_or_pos p.blks.length with h0 | h0
 ·unfold wkD
  rw [h0]
  show phi (wk0 p) ≤ _
  omega
 ·rw [← h]
  exact rI_phi p _ 0 _ (by simp [wk0]) (by simpa using h0) (by simp [S3.look, wk0, List.getD, h0])
theorem wkD_len (p : Pr) (h : p.blks.length ≤ 1000000) : (wkD p).ord.length + (wkD p).back.length ≤ 10000000 := by
 have := wkD_phi p
 unfold phi at this
 omega
theorem madeI (w : World) (B n : Nat) (hB : B ≤ w.heap.size) (hn : n ≤ maxLen) : (w.alloc (.cells (madeCells #[.int .i64 0] n) 3)).ownsRow B 3 1 (.slice (some ⟨w.heap.size, 0, none⟩) n n) n ((List.replicate n (0 : Int)).map (Value.int .i64)) := by
 have hl : (madeCells #[Value.int .i64 0] n).toList = (List.replicate n (0 : Int)).map (Value.int .i64) := by
  apply List.ext_getElem
  ·simp [madeCells]
  ·intro i h1 h2
   simp [madeCells, Nat.mod_one]
 refine ⟨by simp, .inr ⟨w.heap.size, n, _, rfl, hB, heap_alloc_new w _, by simp, hn, by simp [madeCells], ?_⟩⟩
 rw [hl]
 simp [List.take_of_length_le]
theorem reverse_nil (w : World) : Calls Tryd.prog 74 #[.slice none 0 0] w fun e w' => e = .returned (.tuple #[]) ∧ w = w' := by
 go_enter Tryd.func74, Tryd.ntmps74
 go_wp2_with fail
 go_loopw [2, 3] (fun i j wr => i = .int .i64 0 ∧ j = .int .i64 (-1) ∧ Hid (w = wr)) (fun _ _ _ => 0)
 case atStart => exact ⟨rfl, by go_num, rfl⟩
 case round =>
  obtain ⟨rfl, rfl, h⟩ := hrel
  go_wp2_with fail
  go_end0
  exact ⟨rfl, h.out⟩
theorem reverse_any (l : List Int) (v : Value) (w : World) (B : Nat) (hv : OwnI w B v l) (hn : l.length ≤ 1000000000) :
  Calls Tryd.prog 74 #[v] w fun e w' => e = .returned (.tuple #[]) ∧ OwnI w' B v l.reverse ∧ w.grownBy w' v.ownBlock := by
 obtain ⟨_, ⟨rfl, h2⟩ | ⟨g, cap, cur, rfl, _⟩⟩ := id hv
 ·have : l = [] := List.eq_nil_of_length_eq_zero h2
  subst this
  exact (reverse_nil w).mono fun e w' h => ⟨h.1, h.2 ▸ hv, h.2 ▸ ⟨rfl, rfl, rfl, Nat.le_refl _, fun _ _ _ => rfl⟩⟩
 ·exact (reverse_c l g cap w B hv hn).mono fun e w' h => ⟨h.1, h.2.1, ⟨h.2.2.os, h.2.2.tape, h.2.2.output, h.2.2.size, fun k hk he => h.2.2.block k hk (fun e => he (by rw [e]; rfl))⟩⟩
theorem WM.ordSet {wp w w1 : World} {bw bs B n : Nat} {hd : List Value} {s : S3} {ov bv tv : Value} {S : List Kt} {l : List Int} (h : WM wp w bw bs B n hd s ov bv tv S) (hg : w.grownBy w1 ov.ownBlock) (ho : OwnI w1 B ov l) : WM wp w1 bw bs B n hd { s with ord := l } ov bv tv S := by
 have fr : ∀ b, ov.ownBlock = some b → B ≤ b := fun b e => (h.ord.lt b e).1
 refine ⟨h.wk.kept hg (.inr (fun e => by have := fr bw e.symm; have := h.bwB; omega)), h.st.kept hg (.inr (fun e => by have := fr bs e.symm; have := h.bsB; omega)), ho, h.back.kept hg (rows_ne h.back h.ord (by decide)), h.stk.kept hg (rows_ne h.stk h.ord (by decide)),
  fun k hk => (h.outs k hk).kept hg (fun b e => .inl e) (.refl _ _) (.refl _ _) (.refl _ _), grown_belG h.below (Nat.le_trans h.pB h.Bw) hg (fun b e => Nat.le_trans h.pB (fr b e)), h.hd6, h.pw, h.ps, h.bwB, h.bsB, Nat.le_trans h.Bw hg.size⟩
/-- what a walk hands back -/
def WkR (w : World) (p : Pr) (e : Ending) (w' : World) : Prop :=
 ∃ bw bs B ov bv tv hd s, e = .returned (.pointer (some ⟨bw, 0, none⟩)) ∧ WM w w' bw bs B p.blks.length hd s ov bv tv [] ∧ s.ord = (wkD p).ord.reverse ∧ s.back = (wkD p).back ∧ s.ord.length + s.back.length ≤ 10000000
theorem walked_c (p : Pr) (V : Value) (w : World) (hP : PrV w V p) (hlen : p.blks.length ≤ 1000000) :
  Calls Tryd.prog 70 #[V] w (WkR w p) := by
 have HP := Lib.hid hP
 obtain ⟨nm, vo, vb, rfl, -, a, c, rfl, hc1, hc2, -⟩ := hP
 have hmx : p.blks.length ≤ maxLen := by unfold maxLen; omega
 go_enter Tryd.func70, Tryd.ntmps70
 go_wp2_with fail
 obtain ⟨W0, hW0⟩ : ∃ W0, W0 = (w.alloc (.cells #[.string nm, .bool p.void, .int .i64 p.params, .int .i64 p.regs, vo, .slice a p.blks.length c] 37)).drew := ⟨_, rfl⟩
 have hb0 : Below w.heap.size w W0 := by rw [hW0]; exact (below_alloc _ _).drew
 have hbox : ∀ j : Nat, j < 6 → W0.cell? ⟨w.heap.size, j, none⟩ = #[Value.string nm, .bool p.void, .int .i64 p.params, .int .i64 p.regs, vo, .slice a p.blks.length c][j]? := fun j _ => by rw [hW0]; exact cell_of_heap (heap_alloc_new w _) j
 have hz0 : w.heap.size < W0.heap.size := by rw [hW0]; simp [World.drew]
 refine wp_region_game (fun b => b = w.heap.size) (by kernel_rfl) ?_
 show wpE _ _ _ _ _ _ _ (World.drew _)
 rw [← hW0]
 clear hW0
 have x0 := hbox 0 (by decide)
 have x1 := hbox 1 (by decide)
 have x2 := hbox 2 (by decide)
 have x3 := hbox 3 (by decide)
 have x4 := hbox 4 (by decide)
 have x5 := hbox 5 (by decide)
 simp at x0 x1 x2 x3 x4 x5
 have hmk := run_make_row' (P := Tryd.prog) 43 3 (.int .i64 0) 8 Tryd.underlying43 info_int rfl .i64 .i64 p.blks.length (by omega) (by omega)
 refine E_mob 0 _ rfl (by kernel_rfl) ?_
 simp only [List.getElem_toArray, List.getElem_cons_succ, List.getElem_cons_zero]
 go_big_quiet_step (fail)
 refine wpQuiet_nil ?_
 refine E_mob 1 _ rfl (by kernel_rfl) ?_
 simp only [List.getElem_toArray, List.getElem_cons_succ, List.getElem_cons_zero]
 go_big_quiet_step (fail)
 refine wpQuiet_nil ?_
 refine E_mob 2 _ rfl (by kernel_rfl) ?_
 simp only [List.getElem_toArray, List.getElem_cons_succ, List.getElem_cons_zero]
 go_big_quiet_step (fail)
 refine wpQuiet_nil ?_
 refine E_loud1 3 _ rfl (by kernel_rfl) ?_
 simp only [List.getElem_toArray, List.getElem_cons_succ, List.getElem_cons_zero]
 go_wp2_with fail
 refine ⟨Keep.refl _ _, ?_⟩
 refine E_loud1 4 _ rfl (by kernel_rfl) ?_
 simp only [List.getElem_toArray, List.getElem_cons_succ, List.getElem_cons_zero]
 go_wp2_with fail
 refine ⟨keep_alloc (fun b hb => by rw [hb]; exact hz0), ?_⟩
 refine E_mob 5 _ rfl (by kernel_rfl) ?_
 simp only [List.getElem_toArray, List.getElem_cons_succ, List.getElem_cons_zero]
 go_big_quiet_step (fail)
 refine wpQuiet_nil ?_
 refine E_loud1 6 _ rfl (by kernel_rfl) ?_
 simp only [List.getElem_toArray, List.getElem_cons_succ, List.getElem_cons_zero]
 go_wp2_with fail
 refine ⟨keep_alloc (fun b hb => by rw [hb]; simp; omega), ?_⟩
 refine E_mob 7 _ rfl (by kernel_rfl) ?_
 simp only [List.getElem_toArray, List.getElem_cons_succ, List.getElem_cons_zero]
 go_big_quiet_step (fail)
 refine wpQuiet_nil ?_
 refine E_done (by kernel_rfl) ?_ _
 clear hmk
 have M0 : Hid (WM w ((W0.alloc (.cells (madeCells #[.int .i64 0] p.blks.length) 3)).alloc (.cells #[.string nm, .bool p.void, .int .i64 p.params, .int .i64 p.regs, vo, .slice a p.blks.length c, .slice (some ⟨W0.heap.size, 0, none⟩) p.blks.length p.blks.length, .slice none 0 0, .slice none 0 0] 98)) (W0.heap.size + 1) W0.heap.size (W0.heap.size + 2) p.blks.length [.string nm, .bool p.void, .int .i64 p.params, .int .i64 p.regs, vo, .slice a p.blks.length c] (wk0 p) (.slice none 0 0) (.slice none 0 0) (.slice none 0 0) []) := by
  have hzs := hb0.size
  refine ⟨⟨rfl, .inr ⟨W0.heap.size + 1, 1, #[.string nm, .bool p.void, .int .i64 p.params, .int .i64 p.regs, vo, .slice a p.blks.length c, .slice (some ⟨W0.heap.size, 0, none⟩) p.blks.length p.blks.length, .slice none 0 0, .slice none 0 0], rfl, by omega, ?_, Nat.le_refl _, by simp [maxLen], rfl, rfl⟩⟩, (madeI W0 0 p.blks.length (by omega) hmx).alloc _, World.ownsRow_nil _ _ _ _, World.ownsRow_nil _ _ _ _, World.ownsRow_nil _ _ _ _, fun k hk => absurd hk (by simp), ?_, rfl, by omega, by omega, by omega, by omega, by simp⟩
  ·have := heap_alloc_new (W0.alloc (.cells (madeCells #[.int .i64 0] p.blks.length) 3)) (.cells #[.string nm, .bool p.void, .int .i64 p.params, .int .i64 p.regs, vo, .slice a p.blks.length c, .slice (some ⟨W0.heap.size, 0, none⟩) p.blks.length p.blks.length, .slice none 0 0, .slice none 0 0] 98)
   simpa using this
  ·exact (hb0.alloc hzs _).alloc (by simp; omega) _
 have y5 := Ext.alloc _ (.cells #[.string nm, .bool p.void, .int .i64 p.params, .int .i64 p.regs, vo, .slice a p.blks.length c, .slice (some ⟨W0.heap.size, 0, none⟩) p.blks.length p.blks.length, .slice none 0 0, .slice none 0 0] 98) _ _ (Ext.alloc _ (.cells (madeCells #[.int .i64 0] p.blks.length) 3) _ _ x5)
 generalize (W0.alloc (.cells (madeCells #[.int .i64 0] p.blks.length) 3)).alloc _ = W2 at M0 y5 ⊢
 generalize W0.heap.size + 1 = bw at M0 ⊢
 generalize W0.heap.size = bs at M0 ⊢
 generalize bs + 2 = B at M0
 clear x0 x1 x2 x3 x4 x5 hb0 hz0 hbox
 rcases Nat.eq_zero_or_pos p.blks.length with h0 | h0
 ·have q7 : W2.cell? ⟨bw, 7, none⟩ = some (.slice none 0 0) := (M0.out.wk.cellAt 7 (by decide)).trans rfl
  have hd : decide (0 < (p.blks.length : Int)) = false := decide_eq_false (by omega)
  have HW : Hid (WkR w p (.returned (.pointer (some ⟨bw, 0, none⟩))) W2) := by
   have e : wkD p = wk0 p := by unfold wkD; rw [h0]; rfl
   exact ⟨bw, _, B, _, _, _, _, wk0 p, rfl, M0.out, by rw [e]; rfl, by rw [e], by simp [wk0]⟩
  clear M0 HP
  go_wp2_with (go_at_call 74; refine (reverse_nil W2).mono ?_; rintro e w' ⟨rfl, rfl⟩)
  go_ret
  exact HW.out
 ·obtain ⟨f, hf⟩ : ∃ f, p.blks.length = f + 1 := ⟨p.blks.length - 1, by omega⟩
  have hd : decide (0 < (p.blks.length : Int)) = true := decide_eq_true (by omega)
  have EI : Hid (Calls Tryd.prog 87 #[.pointer (some ⟨bw, 0, none⟩), .int .i64 0] W2 fun e w' => e = .returned (.tuple #[]) ∧ ∃ ov bv tv, WM w w' bw bs B p.blks.length [.string nm, .bool p.void, .int .i64 p.params, .int .i64 p.regs, vo, .slice a p.blks.length c] (wkD p) ov bv tv []) := by
   have hz := wk0_zeros p
   have := into_c w W2 p nm vo (.slice a p.blks.length c) bw bs B 0 (wk0 p) (.slice none 0 0) (.slice none 0 0) f HP.out h0 hlen M0.out (by simp [S3.look, wk0, List.getD, h0]) (by omega) (by rw [hz]; simp [wk0]; omega)
   have e : wkD p = rI p (f + 1) 0 (wk0 p) := by unfold wkD; rw [hf]
   rw [e]
   exact this
  have HL2 := Lib.hid (wkD_len p hlen)
  have HL : Hid ((wkD p).ord.length ≤ 1000000000) := Nat.le_trans (Nat.le_add_right _ _) (Nat.le_trans HL2.out (by decide))
  clear HP M0
  go_wp2_with (go_at_call 87; refine EI.out.mono ?_; rintro e w3 ⟨rfl, ov, bv, tv, M3⟩; have M3 := Lib.hid M3; have q7 : w3.cell? ⟨bw, 7, none⟩ = some ov := (M3.out.wk.cellAt 7 (by decide)).trans rfl)
  have HO : Hid (OwnI w3 B ov (wkD p).ord) := M3.out.ord
  refine (reverse_any _ ov w3 B HO.out HL.out).mono ?_
  rintro e w4 ⟨rfl, ho, hg⟩
  have M4 : Hid (WkR w p (.returned (.pointer (some ⟨bw, 0, none⟩))) w4) := ⟨bw, _, B, _, _, _, _, _, rfl, M3.out.ordSet hg ho, rfl, rfl, by simpa using HL2.out⟩
  clear ho hg M3 HO q7
  go_wp2_with fail
  go_ret
  exact M4.out
end Go.Proofs.YtnnhobbabcfogaaDoor

set_option linter.all false
namespace Go.Proofs.YtnnhobbabcfogaaDoor
open Go.ChangeShapes Go.WideShapes Go.ChangeAt Go.RowKit
set_option maxHeartbeats 2000000
set_option maxRecDepth 20000

/-- pairs in a row of the call's own, handed back -/
def RetP (w : World) (l : List (Int × Int)) (e : Ending) (w' : World) : Prop := ∃ v, e = .returned v ∧ w'.ownsRow w.heap.size 142 2 v l.length (pairsV l) ∧ Below w.heap.size w w'
theorem ownsRow_base {w : World} {B B' n s : Nat} {e : TypeId} {v : Value} {xs : List Value} (h : w.ownsRow B e s v n xs) (hB : B' ≤ B) : w.ownsRow B' e s v n xs := by
 obtain ⟨h1, h2 | ⟨g, cap, cur, h3, hb, r⟩⟩ := h
 ·exact ⟨h1, .inl h2⟩
 ·exact ⟨h1, .inr ⟨g, cap, cur, h3, Nat.le_trans hB hb, r⟩⟩
end Go.Proofs.YtnnhobbabcfogaaDoor

set_option linter.all false
namespace Go.Proofs.YtnnhobbabcfogaaDoor
open Go.ChangeShapes Go.WideShapes Go.ChangeAt Go.RowKit
set_option maxHeartbeats 2000000
set_option maxRecDepth 20000

/-- the search, with the blocks that are still to be gone into -/
def lvQ (p : Pr) (r : Int) : Nat → List Bool → List Int → Bool
 | 0, _, _ => false
 | _ + 1, _, [] => false
 | f + 1, seen, b :: q =>
  if seen.getD b.toNat false = true then lvQ p r f seen q
  else if withinB (p.blks.getD b.toNat default) 0 r = 1 then true
  else if withinB (p.blks.getD b.toNat default) 0 r = 0 then lvQ p r f (seen.set b.toNat true) (q ++ outsP p b.toNat)
  else lvQ p r f (seen.set b.toNat true) q
/-- is a register live at a place of a block? -/
def liveP (p : Pr) (n k : Nat) (r : Int) : Bool :=
 if 0 < withinB (p.blks.getD n default) k r then decide (withinB (p.blks.getD n default) k r = 1) else lvQ p r (2 + 3 * p.blks.length) (List.replicate p.blks.length false) (outsP p n)
/-- how far the search has come -/
structure LvQ (p : Pr) (r : Int) (R : Bool) (f : Nat) (seen : List Bool) (todo : List Int) (k : Nat) : Prop where
 res : lvQ p r f seen (todo.drop k) = R
 le : k ≤ todo.length
 len : seen.length = p.blks.length
 fuel : todo.length - k + 3 * seen.count false ≤ f
 room : todo.length + 2 * seen.count false ≤ 2 + 2 * p.blks.length
 ins : ∀ t ∈ todo, 0 ≤ t ∧ t < p.blks.length
theorem count_set_false (l : List Bool) (i : Nat) (h : i < l.length) (h0 : l.getD i false = false) : (l.set i true).count false + 1 = l.count false := by
 have h1 : l[i] = false := by simpa [List.getD, h] using h0
 have h2 : 0 < l.count false := List.count_pos_iff.2 (h1 ▸ List.getElem_mem h)
 rw [List.count_set h]
 simp [h1]
 omega
theorem LvQ.start (p : Pr) (r : Int) (n : Nat) : LvQ p r (lvQ p r (2 + 3 * p.blks.length) (List.replicate p.blks.length false) (outsP p n)) (2 + 3 * p.blks.length) (List.replicate p.blks.length false) (outsP p n) 0 := by
 have := outsP_len p n
 refine ⟨rfl, by omega, by simp, ?_, ?_, fun t ht => outsP_mem ht⟩
 ·simp [List.count_replicate_self]; omega
 ·simp [List.count_replicate_self]; omega
section
variable {p : Pr} {r : Int} {R : Bool} {f : Nat} {seen : List Bool} {todo : List Int} {k : Nat}
theorem LvQ.done (h : LvQ p r R f seen todo k) (hk : ¬ k < todo.length) : R = false := by
 have h1 := h.res
 rw [List.drop_eq_nil_of_le (by omega)] at h1
 rw [← h1]
 cases f <;> rfl
theorem LvQ.cons (h : LvQ p r R f seen todo k) (hk : k < todo.length) : ∃ f', f = f' + 1 ∧ (0 ≤ todo.getD k 0 ∧ todo.getD k 0 < p.blks.length) ∧ lvQ p r (f' + 1) seen (todo.getD k 0 :: todo.drop (k + 1)) = R := by
 have h1 := h.fuel
 refine ⟨f - 1, by omega, h.ins _ (by simp [List.getD, hk]), ?_⟩
 have h2 := h.res
 rw [List.drop_eq_getElem_cons hk] at h2
 rw [show f - 1 + 1 = f by omega]
 simpa [List.getD, hk] using h2
theorem LvQ.old (h : LvQ p r R f seen todo k) (hk : k < todo.length) (hs : seen.getD (todo.getD k 0).toNat false = true) : ∃ f', f' < f ∧ LvQ p r R f' seen todo (k + 1) := by
 obtain ⟨f', rfl, -, h1⟩ := h.cons hk
 have h2 := h.fuel
 unfold lvQ at h1
 rw [if_pos hs] at h1
 exact ⟨f', Nat.lt_succ_self _, h1, hk, h.len, by omega, h.room, h.ins⟩
theorem LvQ.yes (h : LvQ p r R f seen todo k) (hk : k < todo.length) (hs : seen.getD (todo.getD k 0).toNat false = false) (hw : withinB (p.blks.getD (todo.getD k 0).toNat default) 0 r = 1) : R = true := by
 obtain ⟨f', rfl, -, h1⟩ := h.cons hk
 unfold lvQ at h1
 rw [if_neg (by rw [hs]; decide), if_pos hw] at h1
 exact h1.symm
theorem LvQ.more (h : LvQ p r R f seen todo k) (hk : k < todo.length) (hs : seen.getD (todo.getD k 0).toNat false = false) (hw : withinB (p.blks.getD (todo.getD k 0).toNat default) 0 r = 0) : ∃ f', f' < f ∧ LvQ p r R f' (seen.set (todo.getD k 0).toNat true) (todo ++ outsP p (todo.getD k 0).toNat) (k + 1) := by
 obtain ⟨f', rfl, ht, h1⟩ := h.cons hk
 have h2 := h.fuel
 have h3 := h.room
 have h4 := count_set_false seen (todo.getD k 0).toNat (by rw [h.len]; omega) hs
 have h5 := outsP_len p (todo.getD k 0).toNat
 unfold lvQ at h1
 rw [if_neg (by rw [hs]; decide), if_neg (by rw [hw]; decide), if_pos hw] at h1
 refine ⟨f', Nat.lt_succ_self _, by rw [List.drop_append_of_le_length (by omega)]; exact h1, by rw [List.length_append]; omega, by simpa using h.len, by rw [List.length_append]; omega, by rw [List.length_append]; omega, fun t ht => ?_⟩
 rcases List.mem_append.1 ht with ht | ht
 ·exact h.ins t ht
 ·exact outsP_mem ht
theorem LvQ.stop (h : LvQ p r R f seen todo k) (hk : k < todo.length) (hs : seen.getD (todo.getD k 0).toNat false = false) (hw : withinB (p.blks.getD (todo.getD k 0).toNat default) 0 r ≠ 1) (hw' : withinB (p.blks.getD (todo.getD k 0).toNat default) 0 r ≠ 0) : ∃ f', f' < f ∧ LvQ p r R f' (seen.set (todo.getD k 0).toNat true) todo (k + 1) := by
 obtain ⟨f', rfl, ht, h1⟩ := h.cons hk
 have h2 := h.fuel
 have h3 := h.room
 have h4 := count_set_false seen (todo.getD k 0).toNat (by rw [h.len]; omega) hs
 unfold lvQ at h1
 rw [if_neg (by rw [hs]; decide), if_neg hw, if_neg hw'] at h1
 exact ⟨f', Nat.lt_succ_self _, h1, hk, by simpa using h.len, by omega, by omega, h.ins⟩
end

/-- the search in memory -/
structure LQ (W0 w : World) (gs B n : Nat) (seen : List Bool) (tv : Value) (todo : List Int) : Prop where
 below : Below W0.heap.size W0 w
 row : RowB w gs n n seen
 own : OwnI w B tv todo
 g0 : W0.heap.size ≤ gs
 gB : gs < B
 Bw : B ≤ w.heap.size
section
variable {W0 w : World} {gs B n : Nat} {seen : List Bool} {tv : Value} {todo : List Int}
theorem LQ.grow {w' : World} (h : LQ W0 w gs B n seen tv todo) (hb : Below w.heap.size w w') : LQ W0 w' gs B n seen tv todo := by
 have hg : w.grownBy w' none := ⟨hb.os, hb.tape, hb.output, hb.size, fun k hk _ => hb.block k hk⟩
 have h1 := h.g0
 have h2 := h.gB
 have h3 := h.Bw
 exact ⟨h.below.trans (hb.mono (by omega)), h.row.below hb, World.ownsRow.kept h.own hg (by cases tv.ownBlock <;> simp), h.g0, h.gB, Nat.le_trans h.Bw hb.size⟩
theorem LQ.outs {w1 : World} {v : Value} {l : List Int} (h : LQ W0 w gs B n seen tv todo) (hr : RdF w1 w.heap.size v l) : OutsAt w1 B tv (.slice none 0 0) (.slice none 0 0) v l := by
 obtain ⟨⟨a, c, rfl, h2, h3, h4⟩, hf⟩ := hr
 refine ⟨a, c, rfl, h2, h3, fun i hi => ?_⟩
 obtain ⟨b, o, rfl, hc⟩ := h4 i hi
 have hb : w.heap.size ≤ b := hf _ _ _ rfl
 refine ⟨b, o, rfl, Nat.le_trans h.Bw hb, fun e => ?_, by simp [Value.ownBlock], by simp [Value.ownBlock], by simpa using hc⟩
 have := (World.ownsRow.lt h.own b e).2
 omega
theorem LQ.set (h : LQ W0 w gs B n seen tv todo) (i : Nat) : LQ W0 (w.setCell ⟨gs, i, none⟩ (.bool true)) gs B n (seen.set i true) tv todo := by
 have hg : w.grownBy (w.setCell ⟨gs, i, none⟩ (.bool true)) (some gs) := ⟨rfl, rfl, rfl, by simp, fun k _ hk => Below.heap_setCell w ⟨gs, i, none⟩ _ k (fun e => hk (by rw [show k = gs from e]))⟩
 exact ⟨h.below.setCell h.g0 _, OwnB.set h.row i true, World.ownsRow.kept h.own hg (ne_of (row_far h.own h.gB)), h.g0, h.gB, by simpa using h.Bw⟩
theorem LQ.app {w' : World} {tv' : Value} {x : Int} (h : LQ W0 w gs B n seen tv todo) (hg : w.grownBy w' tv.ownBlock) (ho : w'.ownsRow B 3 1 tv' (todo.length + 1) (todo.map (Value.int .i64) ++ [.int .i64 x])) : LQ W0 w' gs B n seen tv' (todo ++ [x]) := by
 have fr : ∀ b, tv.ownBlock = some b → B ≤ b := fun b e => (World.ownsRow.lt h.own b e).1
 have h1 := h.g0
 have h2 := h.gB
 refine ⟨grown_belG h.below (Nat.le_trans (by omega) h.Bw) hg (fun b e => by have := fr b e; omega), World.ownsRow.kept h.row hg (.inr (fun e => by have := fr gs e.symm; omega)), ?_, h.g0, h.gB, Nat.le_trans h.Bw hg.size⟩
 unfold OwnI
 simpa using ho
end
end Go.Proofs.YtnnhobbabcfogaaDoor
