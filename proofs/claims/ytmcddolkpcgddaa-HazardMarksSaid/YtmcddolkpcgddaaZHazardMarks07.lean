/-
 Contract of slices.Reverse at lists of integers of the call's own.; Contracts of flow's walk through a procedure, and of what it tells: the order, and where ends lead back.
-/
import Derived.Test.YtmcddolkpcgddaaZHazardMarks06

set_option linter.all false
namespace Go.Proofs.Ytmcddolkpcgddaa
open Go.ChangeShapes Go.WideShapes Go.ChangeAt Go.RowKit
set_option maxHeartbeats 2000000
set_option maxRecDepth 20000

/-- the k first and the k last have changed places -/
structure RevR (l cur : List Int) (k : Nat) : Prop where
 len : cur.length = l.length
 le : 2 * k ≤ l.length
 get : ∀ t, t < l.length → cur.getD t 0 = if t < k ∨ l.length - k ≤ t then l.getD (l.length - 1 - t) 0 else l.getD t 0
theorem getD_setI (l : List Int) (i t : Nat) (x : Int) (h : i < l.length) : (l.set i x).getD t 0 = if i = t then x else l.getD t 0 := by
 by_cases e : i = t
 ·subst e; simp [List.getD, h]
 ·simp [List.getD, List.getElem?_set, e]
theorem RevR.start (l : List Int) : RevR l l 0 := ⟨rfl, by omega, fun t ht => by rw [if_neg (by omega)]⟩
theorem RevR.step {l cur : List Int} {k : Nat} (h : RevR l cur k) (hk : 2 * k + 1 < l.length) : RevR l ((cur.set k (cur.getD (l.length - 1 - k) 0)).set (l.length - 1 - k) (cur.getD k 0)) (k + 1) := by
 have hl := h.len
 refine ⟨by simpa using h.len, by omega, fun t ht => ?_⟩
 have hx := h.get k (by omega)
 have hy := h.get (l.length - 1 - k) (by omega)
 rw [if_neg (by omega)] at hx hy
 rw [getD_setI (cur.set k (cur.getD (l.length - 1 - k) 0)) (l.length - 1 - k) t _ (by rw [List.length_set]; omega), getD_setI cur k t _ (by omega), hx, hy, h.get t ht]
 by_cases e1 : l.length - 1 - k = t
 ·rw [if_pos e1, if_pos (by omega), ← e1, show l.length - 1 - (l.length - 1 - k) = k by omega]
 ·rw [if_neg e1]
  by_cases e2 : k = t
  ·rw [if_pos e2, if_pos (by omega), ← e2]
  ·rw [if_neg e2]
   by_cases e3 : t < k ∨ l.length - k ≤ t
   ·rw [if_pos e3, if_pos (by omega)]
   ·rw [if_neg e3, if_neg (by omega)]
theorem RevR.done {l cur : List Int} {k : Nat} (h : RevR l cur k) (hk : ¬ 2 * k + 1 < l.length) : cur = l.reverse := by
 apply List.ext_getElem
 ·simpa using h.len
 ·intro t h1 h2
  have hl := h.len
  have ht : t < l.length := by omega
  have := h.get t ht
  have e : (if t < k ∨ l.length - k ≤ t then l.getD (l.length - 1 - t) 0 else l.getD t 0) = l.getD (l.length - 1 - t) 0 := by
   split
   ·rfl
   ·have := h.le
    rw [show l.length - 1 - t = t by omega]
  rw [e] at this
  rw [List.getElem_reverse]
  simpa [List.getD, h1, ht, show l.length - 1 - t < l.length by omega] using this
theorem reverse_c (l : List Int) (g cp : Nat) (w : World) (B : Nat) (hv : OwnI w B (.slice (some ⟨g, 0, none⟩) l.length cp) l) (hn : l.length ≤ 1000000000) :
  Calls Try.prog 120 #[.slice (some ⟨g, 0, none⟩) l.length cp] w fun e w' => e = .returned (.tuple #[]) ∧ OwnI w' B (.slice (some ⟨g, 0, none⟩) l.length cp) l.reverse ∧ But g w w' := by
 have HV := Lib.hid hv
 obtain ⟨-, hcap, hcm, -, -, -⟩ := hv.cellAt
 unfold maxLen at hcm
 clear hv
 go_enter Try.func120, Try.ntmps120
 go_wp2_with fail
 go_loopw [2, 3] (fun i j wr => ∃ (k : Nat) (cur : List Int), i = .int .i64 (k : Int) ∧ j = .int .i64 ((l.length : Int) - 1 - k) ∧ Hid (RevR l cur k) ∧ Hid (OwnI wr B (.slice (some ⟨g, 0, none⟩) l.length cp) cur) ∧ Hid (But g w wr))
  (fun i _ _ => l.length - (intOf i).toNat)
 case atStart => exact ⟨0, l, rfl, by go_num, RevR.start l, HV, But.refl _ _⟩
 case round =>
  obtain ⟨k, cur, rfl, rfl, D, O, Hb⟩ := hrel
  by_cases hlt : 2 * k + 1 < l.length
  ·have hd : decide ((k : Int) < (l.length : Int) - 1 - k) = true := by simp; omega
   have D1 := D.out.step hlt
   have hj : (l.length : Int) - 1 - k = ((l.length - 1 - k : Nat) : Int) := by omega
   obtain ⟨-, -, -, -, hcells, hfr⟩ := O.out.cellAt
   have hx := hcells k (by omega)
   have hy := hcells (l.length - 1 - k) (by omega)
   have hfk := hfr k
   have hfj := hfr (l.length - 1 - k)
   generalize cur.getD k 0 = x at *
   generalize cur.getD (l.length - 1 - k) 0 = y at *
   have D1 := Lib.hid D1
   have hkj : k ≠ l.length - 1 - k := by omega
   clear hcells hfr D
   rw [hj] at hd ⊢
   have hjl : l.length - 1 - k < l.length := by omega
   obtain ⟨jj, hjj⟩ : ∃ jj, Hid (l.length - 1 - k = jj) := ⟨_, rfl⟩
   go_wp2_with fail
   refine wp_region_game (fun _ => False) (by kernel_rfl) ?_
   show wpE _ _ _ _ _ _ _ wr.drew
   replace O : Hid (OwnI wr.drew B (.slice (some ⟨g, 0, none⟩) l.length cp) cur) := O
   replace Hb : Hid (But g w wr.drew) := Hb.out.trans (But.below (Below.drew (Below.refl _ _)))
   replace hx : wr.drew.cell? ⟨g, k, none⟩ = _ := hx
   replace hy : wr.drew.cell? ⟨g, l.length - 1 - k, none⟩ = _ := hy
   replace hfk : wr.drew.frozen? ⟨g, k, none⟩ = _ := hfk
   replace hfj : wr.drew.frozen? ⟨g, l.length - 1 - k, none⟩ = _ := hfj
   generalize wr.drew = W at O Hb hx hy hfk hfj ⊢
   refine E_mob 0 _ rfl (by kernel_rfl) ?_
   simp only [List.getElem_toArray, List.getElem_cons_succ, List.getElem_cons_zero]
   go_big_quiet_step (fail)
   refine wpQuiet_nil ?_
   refine E_mob 1 _ rfl (by kernel_rfl) ?_
   simp only [List.getElem_toArray, List.getElem_cons_succ, List.getElem_cons_zero]
   go_big_quiet_step (fail)
   refine wpQuiet_nil ?_
   refine E_mob 2 _ rfl (by kernel_rfl) ?_
   simp only [List.getElem_toArray, List.getElem_cons_succ, List.getElem_cons_zero]
   go_big_quiet_step (fail)
   refine wpQuiet_nil ?_
   refine E_mob 3 _ rfl (by kernel_rfl) ?_
   simp only [List.getElem_toArray, List.getElem_cons_succ, List.getElem_cons_zero]
   go_big_quiet_step (fail)
   refine wpQuiet_nil ?_
   refine E_mob 4 _ rfl (by kernel_rfl) ?_
   simp only [List.getElem_toArray, List.getElem_cons_succ, List.getElem_cons_zero]
   go_big_quiet_step (fail)
   refine wpQuiet_nil ?_
   refine E_mob 5 _ rfl (by kernel_rfl) ?_
   simp only [List.getElem_toArray, List.getElem_cons_succ, List.getElem_cons_zero]
   go_big_quiet_step (fail)
   refine wpQuiet_nil ?_
   refine E_mob 6 _ rfl (by kernel_rfl) ?_
   simp only [List.getElem_toArray, List.getElem_cons_succ, List.getElem_cons_zero]
   go_big_quiet_step (fail)
   refine wpQuiet_nil ?_
   refine E_mob 8 _ rfl (by kernel_rfl) ?_
   simp only [List.getElem_toArray, List.getElem_cons_succ, List.getElem_cons_zero]
   go_big_quiet_step (fail)
   refine wpQuiet_nil ?_
   refine E_mob 9 _ rfl (by kernel_rfl) ?_
   simp only [List.getElem_toArray, List.getElem_cons_succ, List.getElem_cons_zero]
   go_big_quiet_step (fail)
   refine wpQuiet_nil ?_
   refine E_mob 10 _ rfl (by kernel_rfl) ?_
   simp only [List.getElem_toArray, List.getElem_cons_succ, List.getElem_cons_zero]
   go_big_quiet_step (fail)
   refine wpQuiet_nil ?_
   refine E_loud2 7 11 _ _ rfl rfl (by kernel_rfl) ?_ ?_
   ·simp only [List.getElem_toArray, List.getElem_cons_succ, List.getElem_cons_zero]
    go_wp2_with fail
    refine ⟨fun _ _ h => h.elim, ?_⟩
    refine E_loud1 11 _ rfl (by kernel_rfl) ?_
    simp only [List.getElem_toArray, List.getElem_cons_succ, List.getElem_cons_zero]
    go_wp2_with fail
    refine ⟨fun _ _ h => h.elim, ?_⟩
    refine E_mob 12 _ rfl (by kernel_rfl) ?_
    simp only [List.getElem_toArray, List.getElem_cons_succ, List.getElem_cons_zero]
    go_big_quiet_step (fail)
    refine wpQuiet_nil ?_
    refine E_loud1 13 _ rfl (by kernel_rfl) ?_
    simp only [List.getElem_toArray, List.getElem_cons_succ, List.getElem_cons_zero]
    go_wp2_with fail
    refine ⟨fun _ _ h => h.elim, ?_⟩
    refine E_mob 14 _ rfl (by kernel_rfl) ?_
    simp only [List.getElem_toArray, List.getElem_cons_succ, List.getElem_cons_zero]
    go_big_quiet_step (fail)
    refine wpQuiet_nil ?_
    refine E_loud1 15 _ rfl (by kernel_rfl) ?_
    simp only [List.getElem_toArray, List.getElem_cons_succ, List.getElem_cons_zero]
    go_wp2_with fail
    refine ⟨fun _ _ h => h.elim, ?_⟩
    refine E_done (by kernel_rfl) ?_ _
    have O1 : Hid (OwnI ((W.setCell ⟨g, k, none⟩ (.int .i64 y)).setCell ⟨g, l.length - 1 - k, none⟩ (.int .i64 x)) B (.slice (some ⟨g, 0, none⟩) l.length cp) ((cur.set k y).set (l.length - 1 - k) x)) := (O.out.set k y).set (l.length - 1 - k) x
    have B1 : Hid (But g w ((W.setCell ⟨g, k, none⟩ (.int .i64 y)).setCell ⟨g, l.length - 1 - k, none⟩ (.int .i64 x))) := (Hb.out.trans (But.setCell _ _ _ _)).trans (But.setCell _ _ _ _)
    clear O Hb hx hy hfk hfj
    go_wp2_with fail
    go_roundw
    case rel => exact ⟨k + 1, _, by go_num, by congr 1; omega, D1, O1, B1⟩
    case measure => simp [intOf]; omega
   ·simp only [List.getElem_toArray, List.getElem_cons_succ, List.getElem_cons_zero]
    go_wp2_with fail
    refine ⟨fun _ _ h => h.elim, ?_⟩
    refine E_loud1 7 _ rfl (by kernel_rfl) ?_
    simp only [List.getElem_toArray, List.getElem_cons_succ, List.getElem_cons_zero]
    go_wp2_with fail
    refine ⟨fun _ _ h => h.elim, ?_⟩
    refine E_mob 12 _ rfl (by kernel_rfl) ?_
    simp only [List.getElem_toArray, List.getElem_cons_succ, List.getElem_cons_zero]
    go_big_quiet_step (fail)
    refine wpQuiet_nil ?_
    refine E_loud1 13 _ rfl (by kernel_rfl) ?_
    simp only [List.getElem_toArray, List.getElem_cons_succ, List.getElem_cons_zero]
    go_wp2_with fail
    refine ⟨fun _ _ h => h.elim, ?_⟩
    refine E_mob 14 _ rfl (by kernel_rfl) ?_
    simp only [List.getElem_toArray, List.getElem_cons_succ, List.getElem_cons_zero]
    go_big_quiet_step (fail)
    refine wpQuiet_nil ?_
    refine E_loud1 15 _ rfl (by kernel_rfl) ?_
    simp only [List.getElem_toArray, List.getElem_cons_succ, List.getElem_cons_zero]
    go_wp2_with fail
    refine ⟨fun _ _ h => h.elim, ?_⟩
    refine E_done (by kernel_rfl) ?_ _
    have O1 : Hid (OwnI ((W.setCell ⟨g, k, none⟩ (.int .i64 y)).setCell ⟨g, l.length - 1 - k, none⟩ (.int .i64 x)) B (.slice (some ⟨g, 0, none⟩) l.length cp) ((cur.set k y).set (l.length - 1 - k) x)) := (O.out.set k y).set (l.length - 1 - k) x
    have B1 : Hid (But g w ((W.setCell ⟨g, k, none⟩ (.int .i64 y)).setCell ⟨g, l.length - 1 - k, none⟩ (.int .i64 x))) := (Hb.out.trans (But.setCell _ _ _ _)).trans (But.setCell _ _ _ _)
    clear O Hb hx hy hfk hfj
    go_wp2_with fail
    go_roundw
    case rel => exact ⟨k + 1, _, by go_num, by congr 1; omega, D1, O1, B1⟩
    case measure => simp [intOf]; omega
  ·have hd : decide ((k : Int) < (l.length : Int) - 1 - k) = false := by simp; omega
   have HR := Lib.hid (D.out.done hlt)
   go_wp2_with fail
   go_end0
   exact ⟨rfl, by rw [← HR.out]; exact O.out, Hb.out⟩
end Go.Proofs.Ytmcddolkpcgddaa

set_option linter.all false
namespace Go.Proofs.Ytmcddolkpcgddaa
open Go.ChangeShapes Go.WideShapes Go.ChangeAt Go.RowKit
set_option maxHeartbeats 2000000
set_option maxRecDepth 20000

/-- a walk that has not begun -/
def wk0 (p : Pr) : S3 := ⟨List.replicate p.blks.length 0, [], []⟩
/-- the walk through a procedure -/
def wkD (p : Pr) : S3 := rI p p.blks.length 0 (wk0 p)
theorem wk0_zeros (p : Pr) : (wk0 p).zeros = p.blks.length := by simp [wk0, S3.zeros, List.count_replicate_self]
/-- what a walk has gathered, and may gather yet -/
def phi (s : S3) : Nat := s.ord.length + s.back.length + 4 * s.zeros
theorem hI_phi (p : Pr) (f : Nat) (n : Int) (ih : ∀ t s, s.st.length = p.blks.length → t.toNat < p.blks.length → s.look t = 0 → phi (rI p f t s) ≤ phi s) (s : S3) (t : Int) (hs : s.st.length = p.blks.length) (ht : t.toNat < p.blks.length) : phi (hI p f n s t) ≤ phi s + 1 := by
 unfold hI
 split
 ·simp [phi, S3.loop, S3.zeros]; omega
 ·split
  ·exact Nat.le_succ_of_le (ih t s hs ht ‹_›)
  ·omega
theorem foldl_phi (p : Pr) (f : Nat) (n : Int) (ih : ∀ t s, s.st.length = p.blks.length → t.toNat < p.blks.length → s.look t = 0 → phi (rI p f t s) ≤ phi s) : ∀ (l : List Int) (s : S3), s.st.length = p.blks.length → (∀ t ∈ l, 0 ≤ t ∧ t < p.blks.length) → phi (l.foldl (hI p f n) s) ≤ phi s + l.length
 | [], _, _, _ => Nat.le_refl _
 | t :: l, s, hs, hl => by
  have h1 := hl t List.mem_cons_self
  have h2 := hI_phi p f n ih s t hs (by omega)
  have h3 := foldl_phi p f n ih l (hI p f n s t) (by rw [hI_len]; exact hs) (fun x hx => hl x (List.mem_cons_of_mem _ hx))
  rw [List.foldl_cons, List.length_cons]
  omega
theorem rI_phi (p : Pr) : ∀ (f : Nat) (n : Int) (s : S3), s.st.length = p.blks.length → n.toNat < p.blks.length → s.look n = 0 → phi (rI p f n s) ≤ phi s
 | 0, _, _, _, _, _ => Nat.le_refl _
 | f + 1, n, s, hs, hn, h0 => by
  have h1 := zeros_enter s n (by omega) h0
  have h2 := foldl_phi p f n (rI_phi p f) (outsP p n.toNat) (s.enter n) (by rw [enter_len]; exact hs) (fun t ht => outsP_mem ht)
  have h3 := outsP_len p n.toNat
  rw [rI_succ]
  generalize (outsP p n.toNat).foldl (hI p f n) (s.enter n) = s2 at *
  have h4 := zeros_leave_le s2 n
  have e1 : phi (s.enter n) + 4 = phi s := by
   have e : (s.enter n).ord = s.ord ∧ (s.enter n).back = s.back := ⟨rfl, rfl⟩
   unfold phi
   rw [e.1, e.2]
   omega
  have e2 : phi (s2.leave n) ≤ phi s2 + 1 := by
   have e : (s2.leave n).ord.length = s2.ord.length + 1 ∧ (s2.leave n).back = s2.back := ⟨by simp [S3.leave], rfl⟩
   unfold phi
   rw [e.1, e.2]
   omega
  omega
theorem wkD_phi (p : Pr) : phi (wkD p) ≤ 4 * p.blks.length := by
 have h : phi (wk0 p) = 4 * p.blks.length := by unfold phi; rw [wk0_zeros]; simp [wk0]
 rcases Nat.eq_zero_or_pos p.blks.length with h0 | h0
 ·unfold wkD
  rw [h0]
  show phi (wk0 p) ≤ _
  omega
 ·rw [← h]
  exact rI_phi p _ 0 _ (by simp [wk0]) (by simpa using h0) (by simp [S3.look, wk0, List.getD, h0])
theorem wkD_len (p : Pr) (h : p.blks.length ≤ 1000000) : (wkD p).ord.length + (wkD p).back.length ≤ 10000000 := by
 have := wkD_phi p
 unfold phi at this
 omega
theorem madeI (w : World) (B n : Nat) (hB : B ≤ w.heap.size) (hn : n ≤ maxLen) : (w.alloc (.cells (madeCells #[.int .i64 0] n) 3)).ownsRow B 3 1 (.slice (some ⟨w.heap.size, 0, none⟩) n n) n ((List.replicate n (0 : Int)).map (Value.int .i64)) := by
 have hl : (madeCells #[Value.int .i64 0] n).toList = (List.replicate n (0 : Int)).map (Value.int .i64) := by
  apply List.ext_getElem
  ·simp [madeCells]
  ·intro i h1 h2
   simp [madeCells, Nat.mod_one]
 refine ⟨by simp, .inr ⟨w.heap.size, n, _, rfl, hB, heap_alloc_new w _, by simp, hn, by simp [madeCells], ?_⟩⟩
 rw [hl]
 simp [List.take_of_length_le]
theorem reverse_nil (w : World) : Calls Try.prog 120 #[.slice none 0 0] w fun e w' => e = .returned (.tuple #[]) ∧ w = w' := by
 go_enter Try.func120, Try.ntmps120
 go_wp2_with fail
 go_loopw [2, 3] (fun i j wr => i = .int .i64 0 ∧ j = .int .i64 (-1) ∧ Hid (w = wr)) (fun _ _ _ => 0)
 case atStart => exact ⟨rfl, by go_num, rfl⟩
 case round =>
  obtain ⟨rfl, rfl, h⟩ := hrel
  go_wp2_with fail
  go_end0
  exact ⟨rfl, h.out⟩
theorem reverse_any (l : List Int) (v : Value) (w : World) (B : Nat) (hv : OwnI w B v l) (hn : l.length ≤ 1000000000) :
  Calls Try.prog 120 #[v] w fun e w' => e = .returned (.tuple #[]) ∧ OwnI w' B v l.reverse ∧ w.grownBy w' v.ownBlock := by
 obtain ⟨_, ⟨rfl, h2⟩ | ⟨g, cap, cur, rfl, _⟩⟩ := id hv
 ·have : l = [] := List.eq_nil_of_length_eq_zero h2
  subst this
  exact (reverse_nil w).mono fun e w' h => ⟨h.1, h.2 ▸ hv, h.2 ▸ ⟨rfl, rfl, rfl, Nat.le_refl _, fun _ _ _ => rfl⟩⟩
 ·exact (reverse_c l g cap w B hv hn).mono fun e w' h => ⟨h.1, h.2.1, ⟨h.2.2.os, h.2.2.tape, h.2.2.output, h.2.2.size, fun k hk he => h.2.2.block k hk (fun e => he (by rw [e]; rfl))⟩⟩
theorem WM.ordSet {wp w w1 : World} {bw bs B n : Nat} {hd : List Value} {s : S3} {ov bv tv : Value} {S : List Kt} {l : List Int} (h : WM wp w bw bs B n hd s ov bv tv S) (hg : w.grownBy w1 ov.ownBlock) (ho : OwnI w1 B ov l) : WM wp w1 bw bs B n hd { s with ord := l } ov bv tv S := by
 have fr : ∀ b, ov.ownBlock = some b → B ≤ b := fun b e => (h.ord.lt b e).1
 refine ⟨h.wk.kept hg (.inr (fun e => by have := fr bw e.symm; have := h.bwB; omega)), h.st.kept hg (.inr (fun e => by have := fr bs e.symm; have := h.bsB; omega)), ho, h.back.kept hg (rows_ne h.back h.ord (by decide)), h.stk.kept hg (rows_ne h.stk h.ord (by decide)),
  fun k hk => (h.outs k hk).kept hg (fun b e => .inl e) (.refl _ _) (.refl _ _) (.refl _ _), grown_belG h.below (Nat.le_trans h.pB h.Bw) hg (fun b e => Nat.le_trans h.pB (fr b e)), h.hd6, h.pw, h.ps, h.bwB, h.bsB, Nat.le_trans h.Bw hg.size⟩
/-- what a walk hands back -/
def WkR (w : World) (p : Pr) (e : Ending) (w' : World) : Prop :=
 ∃ bw bs B ov bv tv hd s, e = .returned (.pointer (some ⟨bw, 0, none⟩)) ∧ WM w w' bw bs B p.blks.length hd s ov bv tv [] ∧ s.ord = (wkD p).ord.reverse ∧ s.back = (wkD p).back ∧ s.ord.length + s.back.length ≤ 10000000
theorem walked_c (p : Pr) (V : Value) (w : World) (hP : PrV w V p) (hlen : p.blks.length ≤ 1000000) :
  Calls Try.prog 96 #[V] w (WkR w p) := by
 have HP := Lib.hid hP
 obtain ⟨nm, vo, vb, rfl, -, a, c, rfl, hc1, hc2, -⟩ := hP
 have hmx : p.blks.length ≤ maxLen := by unfold maxLen; omega
 go_enter Try.func96, Try.ntmps96
 go_wp2_with fail
 obtain ⟨W0, hW0⟩ : ∃ W0, W0 = (w.alloc (.cells #[.string nm, .bool p.void, .int .i64 p.params, .int .i64 p.regs, vo, .slice a p.blks.length c] 32)).drew := ⟨_, rfl⟩
 have hb0 : Below w.heap.size w W0 := by rw [hW0]; exact (below_alloc _ _).drew
 have hbox : ∀ j : Nat, j < 6 → W0.cell? ⟨w.heap.size, j, none⟩ = #[Value.string nm, .bool p.void, .int .i64 p.params, .int .i64 p.regs, vo, .slice a p.blks.length c][j]? := fun j _ => by rw [hW0]; exact cell_of_heap (heap_alloc_new w _) j
 have hz0 : w.heap.size < W0.heap.size := by rw [hW0]; simp [World.drew]
 refine wp_region_game (fun b => b = w.heap.size) (by kernel_rfl) ?_
 show wpE _ _ _ _ _ _ _ (World.drew _)
 rw [← hW0]
 clear hW0
 have x0 := hbox 0 (by decide)
 have x1 := hbox 1 (by decide)
 have x2 := hbox 2 (by decide)
 have x3 := hbox 3 (by decide)
 have x4 := hbox 4 (by decide)
 have x5 := hbox 5 (by decide)
 simp at x0 x1 x2 x3 x4 x5
 have hmk := run_make_row' (P := Try.prog) 45 3 (.int .i64 0) 8 Try.underlying45 info_int rfl .i64 .i64 p.blks.length (by omega) (by omega)
 refine E_mob 0 _ rfl (by kernel_rfl) ?_
 simp only [List.getElem_toArray, List.getElem_cons_succ, List.getElem_cons_zero]
 go_big_quiet_step (fail)
 refine wpQuiet_nil ?_
 refine E_mob 1 _ rfl (by kernel_rfl) ?_
 simp only [List.getElem_toArray, List.getElem_cons_succ, List.getElem_cons_zero]
 go_big_quiet_step (fail)
 refine wpQuiet_nil ?_
 refine E_mob 2 _ rfl (by kernel_rfl) ?_
 simp only [List.getElem_toArray, List.getElem_cons_succ, List.getElem_cons_zero]
 go_big_quiet_step (fail)
 refine wpQuiet_nil ?_
 refine E_loud1 3 _ rfl (by kernel_rfl) ?_
 simp only [List.getElem_toArray, List.getElem_cons_succ, List.getElem_cons_zero]
 go_wp2_with fail
 refine ⟨Keep.refl _ _, ?_⟩
 refine E_loud1 4 _ rfl (by kernel_rfl) ?_
 simp only [List.getElem_toArray, List.getElem_cons_succ, List.getElem_cons_zero]
 go_wp2_with fail
 refine ⟨keep_alloc (fun b hb => by rw [hb]; exact hz0), ?_⟩
 refine E_mob 5 _ rfl (by kernel_rfl) ?_
 simp only [List.getElem_toArray, List.getElem_cons_succ, List.getElem_cons_zero]
 go_big_quiet_step (fail)
 refine wpQuiet_nil ?_
 refine E_loud1 6 _ rfl (by kernel_rfl) ?_
 simp only [List.getElem_toArray, List.getElem_cons_succ, List.getElem_cons_zero]
 go_wp2_with fail
 refine ⟨keep_alloc (fun b hb => by rw [hb]; simp; omega), ?_⟩
 refine E_mob 7 _ rfl (by kernel_rfl) ?_
 simp only [List.getElem_toArray, List.getElem_cons_succ, List.getElem_cons_zero]
 go_big_quiet_step (fail)
 refine wpQuiet_nil ?_
 refine E_done (by kernel_rfl) ?_ _
 clear hmk
 have M0 : Hid (WM w ((W0.alloc (.cells (madeCells #[.int .i64 0] p.blks.length) 3)).alloc (.cells #[.string nm, .bool p.void, .int .i64 p.params, .int .i64 p.regs, vo, .slice a p.blks.length c, .slice (some ⟨W0.heap.size, 0, none⟩) p.blks.length p.blks.length, .slice none 0 0, .slice none 0 0] 165)) (W0.heap.size + 1) W0.heap.size (W0.heap.size + 2) p.blks.length [.string nm, .bool p.void, .int .i64 p.params, .int .i64 p.regs, vo, .slice a p.blks.length c] (wk0 p) (.slice none 0 0) (.slice none 0 0) (.slice none 0 0) []) := by
  have hzs := hb0.size
  refine ⟨⟨rfl, .inr ⟨W0.heap.size + 1, 1, #[.string nm, .bool p.void, .int .i64 p.params, .int .i64 p.regs, vo, .slice a p.blks.length c, .slice (some ⟨W0.heap.size, 0, none⟩) p.blks.length p.blks.length, .slice none 0 0, .slice none 0 0], rfl, by omega, ?_, Nat.le_refl _, by simp [maxLen], rfl, rfl⟩⟩, (madeI W0 0 p.blks.length (by omega) hmx).alloc _, World.ownsRow_nil _ _ _ _, World.ownsRow_nil _ _ _ _, World.ownsRow_nil _ _ _ _, fun k hk => absurd hk (by simp), ?_, rfl, by omega, by omega, by omega, by omega, by simp⟩
  ·have := heap_alloc_new (W0.alloc (.cells (madeCells #[.int .i64 0] p.blks.length) 3)) (.cells #[.string nm, .bool p.void, .int .i64 p.params, .int .i64 p.regs, vo, .slice a p.blks.length c, .slice (some ⟨W0.heap.size, 0, none⟩) p.blks.length p.blks.length, .slice none 0 0, .slice none 0 0] 165)
   simpa using this
  ·exact (hb0.alloc hzs _).alloc (by simp; omega) _
 have y5 := Ext.alloc _ (.cells #[.string nm, .bool p.void, .int .i64 p.params, .int .i64 p.regs, vo, .slice a p.blks.length c, .slice (some ⟨W0.heap.size, 0, none⟩) p.blks.length p.blks.length, .slice none 0 0, .slice none 0 0] 165) _ _ (Ext.alloc _ (.cells (madeCells #[.int .i64 0] p.blks.length) 3) _ _ x5)
 generalize (W0.alloc (.cells (madeCells #[.int .i64 0] p.blks.length) 3)).alloc _ = W2 at M0 y5 ⊢
 generalize W0.heap.size + 1 = bw at M0 ⊢
 generalize W0.heap.size = bs at M0 ⊢
 generalize bs + 2 = B at M0
 clear x0 x1 x2 x3 x4 x5 hb0 hz0 hbox
 rcases Nat.eq_zero_or_pos p.blks.length with h0 | h0
 ·have q7 : W2.cell? ⟨bw, 7, none⟩ = some (.slice none 0 0) := (M0.out.wk.cellAt 7 (by decide)).trans rfl
  have hd : decide (0 < (p.blks.length : Int)) = false := decide_eq_false (by omega)
  have HW : Hid (WkR w p (.returned (.pointer (some ⟨bw, 0, none⟩))) W2) := by
   have e : wkD p = wk0 p := by unfold wkD; rw [h0]; rfl
   exact ⟨bw, _, B, _, _, _, _, wk0 p, rfl, M0.out, by rw [e]; rfl, by rw [e], by simp [wk0]⟩
  clear M0 HP
  go_wp2_with (go_at_call 120; refine (reverse_nil W2).mono ?_; rintro e w' ⟨rfl, rfl⟩)
  go_ret
  exact HW.out
 ·obtain ⟨f, hf⟩ : ∃ f, p.blks.length = f + 1 := ⟨p.blks.length - 1, by omega⟩
  have hd : decide (0 < (p.blks.length : Int)) = true := decide_eq_true (by omega)
  have EI : Hid (Calls Try.prog 119 #[.pointer (some ⟨bw, 0, none⟩), .int .i64 0] W2 fun e w' => e = .returned (.tuple #[]) ∧ ∃ ov bv tv, WM w w' bw bs B p.blks.length [.string nm, .bool p.void, .int .i64 p.params, .int .i64 p.regs, vo, .slice a p.blks.length c] (wkD p) ov bv tv []) := by
   have hz := wk0_zeros p
   have := into_c w W2 p nm vo (.slice a p.blks.length c) bw bs B 0 (wk0 p) (.slice none 0 0) (.slice none 0 0) f HP.out h0 hlen M0.out (by simp [S3.look, wk0, List.getD, h0]) (by omega) (by rw [hz]; simp [wk0]; omega)
   have e : wkD p = rI p (f + 1) 0 (wk0 p) := by unfold wkD; rw [hf]
   rw [e]
   exact this
  have HL2 := Lib.hid (wkD_len p hlen)
  have HL : Hid ((wkD p).ord.length ≤ 1000000000) := Nat.le_trans (Nat.le_add_right _ _) (Nat.le_trans HL2.out (by decide))
  clear HP M0
  go_wp2_with (go_at_call 119; refine EI.out.mono ?_; rintro e w3 ⟨rfl, ov, bv, tv, M3⟩; have M3 := Lib.hid M3; have q7 : w3.cell? ⟨bw, 7, none⟩ = some ov := (M3.out.wk.cellAt 7 (by decide)).trans rfl)
  have HO : Hid (OwnI w3 B ov (wkD p).ord) := M3.out.ord
  refine (reverse_any _ ov w3 B HO.out HL.out).mono ?_
  rintro e w4 ⟨rfl, ho, hg⟩
  have M4 : Hid (WkR w p (.returned (.pointer (some ⟨bw, 0, none⟩))) w4) := ⟨bw, _, B, _, _, _, _, _, rfl, M3.out.ordSet hg ho, rfl, rfl, by simpa using HL2.out⟩
  clear ho hg M3 HO q7
  go_wp2_with fail
  go_ret
  exact M4.out
end Go.Proofs.Ytmcddolkpcgddaa
