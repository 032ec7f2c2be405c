/-
 What is live behind each instruction: the marking carried back from the block's end is the search.; Which instructions and stores nobody asks for, as plain data; places of which something holds, rising.; Contracts: which stores are hidden; places of which something holds; the document's idle instructions and stores.; Contracts: is a store hidden by what comes behind it; the document's idle instructions and stores; places of which something holds.; Contracts: the document's idle instructions and stores; places of which something holds.; How the reference's walk lies in memory, and what its stores and appends make of it.
-/
import Derived.Test.YtnnhobbabcfogaaZDeadDoes37
import Derived.Test.YtnnhobbabcfogaaZDeadDoes02
import Derived.Test.YtnnhobbabcfogaaZDeadDoes07
import Derived.Test.YtnnhobbabcfogaaZDeadDoes28
import Derived.Test.YtnnhobbabcfogaaZDeadDoes36
import Derived.Test.YtnnhobbabcfogaaZDeadDoes04
import Derived.Test.YtnnhobbabcfogaaZDeadDoes08

set_option linter.all false
namespace Go.Proofs.Ytnnhobbabcfogaa

theorem live_at {p : Pr} {n : Nat} {lo : List Bool} (h : ∀ r : Nat, r < lo.length → lo.getD r false = liveP p n (p.blks.getD n default).ins.length r) (k : Nat) {r : Nat} (hr : r < lo.length) :
  (backK lo ((p.blks.getD n default).ins.drop k)).getD r false = liveP p n k r := by
 rw [backK_get _ _ _ hr]
 have e1 : lo.getD r false = true ↔ LvE p r n := by rw [h r hr]; exact liveP_end p n r
 rw [Bool.eq_iff_iff, liveP_iff]
 unfold LvE at e1
 have e2 : withinB (p.blks.getD n default) k r = if withinI r ((p.blks.getD n default).ins.drop k) = 0 then (if endReads (p.blks.getD n default) r = true then 1 else 0) else withinI r ((p.blks.getD n default).ins.drop k) := by
  unfold withinB; rfl
 rw [e2]
 simp only [Bool.or_eq_true, Bool.and_eq_true, decide_eq_true_eq, e1]
 rcases withinI_cases r ((p.blks.getD n default).ins.drop k) with h0 | h0 | h0 <;> rw [h0] <;> cases endReads (p.blks.getD n default) r <;> simp
theorem backK_step (lo : List Bool) (l : List In) (k : Nat) (hk : k < l.length) : backK lo (l.drop k) = beforeB (backK lo (l.drop (k + 1))) (l.getD k default) := by
 rw [drop_cons l k hk]; rfl
theorem backK_end (lo : List Bool) (l : List In) : backK lo (l.drop l.length) = lo := by simp [backK]
end Go.Proofs.Ytnnhobbabcfogaa

set_option linter.all false
namespace Go.Proofs.Ytnnhobbabcfogaa

/-- the places below k of which h holds, rising -/
def posU (h : Nat → Bool) (k : Nat) : List Int := ((List.range k).filter h).map fun i : Nat => (i : Int)
theorem posU_succ (h : Nat → Bool) (k : Nat) : posU h (k + 1) = posU h k ++ (if h k = true then [(k : Int)] else []) := by
 unfold posU
 rw [List.range_succ, List.filter_append, List.map_append]
 congr 1
 cases e : h k <;> simp [e]
theorem posU_no {h : Nat → Bool} {k : Nat} (e : h k = false) : posU h (k + 1) = posU h k := by rw [posU_succ, e]; simp
theorem posU_yes {h : Nat → Bool} {k : Nat} (e : h k = true) : posU h (k + 1) = posU h k ++ [(k : Int)] := by rw [posU_succ, e]; simp
theorem posU_le (h : Nat → Bool) (k : Nat) : (posU h k).length ≤ k := by
 unfold posU
 rw [List.length_map]
 have := List.length_filter_le h (List.range k)
 rwa [List.length_range] at this
theorem posU_pre (h : Nat → Bool) {j k : Nat} (hjk : j ≤ k) : posU h j <+: posU h k := by
 obtain ⟨d, rfl⟩ := Nat.le.dest hjk
 clear hjk
 induction d with
 | zero => exact List.prefix_refl _
 | succ d ih =>
  refine ih.trans ?_
  rw [← Nat.add_assoc, posU_succ]
  exact List.prefix_append _ _
theorem posU_at (h : Nat → Bool) {i k : Nat} (hi : i < k) (e : h i = true) : (posU h i).length < (posU h k).length ∧ (posU h k).getD (posU h i).length 0 = (i : Int) := by
 obtain ⟨r, hr⟩ := posU_pre h (show i + 1 ≤ k from hi)
 rw [posU_yes e] at hr
 rw [← hr]
 constructor
 ·simp
 ·simp [List.getD]
theorem posU_congr {h g : Nat → Bool} (k : Nat) (e : ∀ i, i < k → h i = g i) : posU h k = posU g k := by
 induction k with
 | zero => rfl
 | succ k ih => rw [posU_succ, posU_succ, ih fun i hi => e i (by omega), e k (by omega)]
theorem posU_mem {h : Nat → Bool} {k : Nat} {x : Int} (hx : x ∈ posU h k) : 0 ≤ x ∧ x < k ∧ h x.toNat = true := by
 unfold posU at hx
 simp only [List.mem_map, List.mem_filter, List.mem_range] at hx
 obtain ⟨i, ⟨h1, h2⟩, rfl⟩ := hx
 exact ⟨by omega, by omega, by simpa using h2⟩
theorem posU_mem_iff (h : Nat → Bool) {i k : Nat} (hi : i < k) : (i : Int) ∈ posU h k ↔ h i = true := by
 constructor
 ·intro hx; have := (posU_mem hx).2.2; simpa using this
 ·intro e
  unfold posU
  simp only [List.mem_map, List.mem_filter, List.mem_range]
  exact ⟨i, ⟨hi, e⟩, rfl⟩
/-- the places from k on, below len, falling -/
def posD (h : Nat → Bool) (len : Nat) : Nat → List Int
 | 0 => []
 | d + 1 => posD h len d ++ (if h (len - 1 - d) = true then [((len - 1 - d : Nat) : Int)] else [])
theorem posD_no {h : Nat → Bool} {len d : Nat} (e : h (len - 1 - d) = false) : posD h len (d + 1) = posD h len d := by simp [posD, e]
theorem posD_yes {h : Nat → Bool} {len d : Nat} (e : h (len - 1 - d) = true) : posD h len (d + 1) = posD h len d ++ [((len - 1 - d : Nat) : Int)] := by simp [posD, e]
theorem posD_succ (h : Nat → Bool) (len d : Nat) : posD h len (d + 1) = posD h len d ++ (if h (len - 1 - d) = true then [((len - 1 - d : Nat) : Int)] else []) := rfl
theorem posD_le (h : Nat → Bool) (len d : Nat) : (posD h len d).length ≤ d := by
 induction d with
 | zero => simp [posD]
 | succ d ih => rw [posD_succ, List.length_append]; split <;> simp <;> omega
theorem posD_part (h : Nat → Bool) (len d : Nat) (hd : d ≤ len) : posU h (len - d) ++ (posD h len d).reverse = posU h len := by
 induction d with
 | zero => simp [posD]
 | succ d ih =>
  have ih := ih (by omega)
  have e : len - d = (len - (d + 1)) + 1 := by omega
  have e2 : len - 1 - d = len - (d + 1) := by omega
  rw [e, posU_succ, List.append_assoc] at ih
  rw [← ih]
  congr 1
  rw [posD_succ, List.reverse_append, e2]
  split <;> simp
theorem posD_all (h : Nat → Bool) (len : Nat) : (posD h len len).reverse = posU h len := by
 have := posD_part h len len (Nat.le_refl _)
 rw [Nat.sub_self] at this
 simpa [posU] using this

/-- does a store hide one of another place ahead of it? -/
def hidesF (s y : In) : Bool := y.op == 6 && (y.size == s.size && (y.a == s.a && y.off == s.off))
def stopsF (s i : In) : Bool := i.op == 5 || (i.op == 9 || (i.op == 12 || defI i == s.a))
def hiddenF (s : In) : List In → Bool
 | [] => false
 | i :: l => if hidesF s i = true then true else if stopsF s i = true then false else hiddenF s l
def storeI (l : List In) (k : Nat) : Bool := (l.getD k default).op == 6 && (!(l.getD k default).log && hiddenF (l.getD k default) (l.drop (k + 1)))
def idleI (p : Pr) (n k : Nat) : Bool := pureI ((p.blks.getD n default).ins.getD k default) && !liveP p n (k + 1) ((p.blks.getD n default).ins.getD k default).d
/-- the places of a block at which nobody asks for the instruction, and the store -/
def idleL (p : Pr) (n : Nat) : List Int := posU (idleI p n) (p.blks.getD n default).ins.length
def storeL (p : Pr) (n : Nat) : List Int := posU (storeI (p.blks.getD n default).ins) (p.blks.getD n default).ins.length
theorem hiddenF_drop (s : In) (l : List In) {k : Nat} (hk : k < l.length) : hiddenF s (l.drop k) = if hidesF s (l.getD k default) = true then true else if stopsF s (l.getD k default) = true then false else hiddenF s (l.drop (k + 1)) := by
 rw [drop_cons l k hk]; rfl
theorem hiddenF_end (s : In) (l : List In) : hiddenF s (l.drop l.length) = false := by rw [List.drop_length]; rfl
end Go.Proofs.Ytnnhobbabcfogaa

set_option linter.all false
namespace Go.Proofs.Ytnnhobbabcfogaa
open Go.ChangeShapes Go.WideShapes Go.ChangeAt Go.RowKit
set_option maxHeartbeats 4000000
set_option maxRecDepth 100000
set_option linter.unusedVariables false

/-! what can be read stays, told by block and place -/
abbrev KeepT (w w' : World) : Prop := KeepX (fun _ => True) w w'
theorem Rows'.keep {w w' : World} {v : Value} {k n : Nat} {R R' : Nat → (Nat → Option Value) → Prop} (h : Rows' w v k n R) (he : KeepT w w') (hR : ∀ i c c', Sub c c' → R i c → R' i c') : Rows' w' v k n R' := by
 obtain ⟨a, c, h1, h2, h3, h4⟩ := h
 refine ⟨a, c, h1, h2, h3, fun i hi => ?_⟩
 obtain ⟨b, o, e, r⟩ := h4 i hi
 exact ⟨b, o, e, hR i _ _ (fun j v hv => he _ _ _ trivial hv) r⟩
theorem RdI.keep {w w' : World} {v : Value} {l : List Int} (h : RdI w v l) (he : KeepT w w') : RdI w' v l := Rows'.keep h he fun _ _ _ hs h => hs _ _ h
theorem InC.keep {w w' : World} {c c' : Nat → Option Value} {i : In} (h : InC w c i) (he : KeepT w w') (hs : Sub c c') : InC w' c' i := by
 obtain ⟨h0, h1, h2, h3, h4, h5, h6, h7, h8, ⟨v, h9, hv⟩, h10⟩ := h
 exact ⟨hs _ _ h0, hs _ _ h1, hs _ _ h2, hs _ _ h3, hs _ _ h4, hs _ _ h5, hs _ _ h6, hs _ _ h7, hs _ _ h8, ⟨v, hs _ _ h9, hv.keep he⟩, hs _ _ h10⟩
theorem RdIns.keep {w w' : World} {v : Value} {l : List In} (h : RdIns w v l) (he : KeepT w w') : RdIns w' v l := Rows'.keep h he fun _ _ _ hs h => h.keep he hs
theorem BkC.keep {w w' : World} {c c' : Nat → Option Value} {b : Bk} (h : BkC w c b) (he : KeepT w w') (hs : Sub c c') : BkC w' c' b := by
 obtain ⟨⟨v, h0, hv⟩, h1, h2, h3, h4⟩ := h
 exact ⟨⟨v, hs _ _ h0, hv.keep he⟩, hs _ _ h1, hs _ _ h2, hs _ _ h3, hs _ _ h4⟩
theorem RdBks.keep {w w' : World} {v : Value} {l : List Bk} (h : RdBks w v l) (he : KeepT w w') : RdBks w' v l := Rows'.keep h he fun _ _ _ hs h => h.keep he hs
theorem RdSls.keep {w w' : World} {v : Value} {l : List Sl} (h : RdSls w v l) (he : KeepT w w') : RdSls w' v l := Rows'.keep h he fun _ _ _ hs h => h.ext hs
theorem PrV.keep {w w' : World} {v : Value} {p : Pr} (h : PrV w v p) (he : KeepT w w') : PrV w' v p := let ⟨nm, vo, vb, e, h, k⟩ := h; ⟨nm, vo, vb, e, h.keep he, k.keep he⟩

theorem drewN_b {B : Nat} {w w1 : World} (h : Below B w w1) (n : Nat) : Below B w (w1.drewN n) := ⟨h.os, h.tape, h.output, h.size, h.block⟩
/-- an instruction by value, its row of arguments whatever it is -/
def aggI (i : In) (va : Value) : Value := .agg #[.int .i64 i.op, .int .i64 i.d, .int .i64 i.a, .int .i64 i.b, .int .i64 i.fn, .int .i64 i.obj, .int .i64 i.off, .int .i64 i.size, .int .u32 i.num, va, .bool i.log]
theorem def_v (i : In) (va : Value) (w : World) :
  Calls Try.prog 58 #[aggI i va] w fun e w' => e = .returned (.int .i64 (defI i)) ∧ Below w.heap.size w w' := by
 unfold aggI
 go_enter Try.func58, Try.ntmps58
 go_wp2
 all_goals
  go_ret
  simp only [beq_iff_eq, beq_eq_false_iff_ne, ne_eq] at *
  exact ⟨ret_i (by unfold defI; first | rw [if_pos (by omega)] | rw [if_neg (by omega)]), below_alloc _ _⟩
theorem hides_v (s y : In) (va ub : Value) (w : World) :
  Calls Try.prog 107 #[aggI s va, aggI y ub] w fun e w' => e = .returned (.bool (hidesF s y)) ∧ Below w.heap.size w w' := by
 unfold aggI
 have hb : ∀ o o' : Obj, Below w.heap.size w ((w.alloc o).alloc o') := fun o o' => (below_alloc w o).alloc (by simp) o'
 cases h1 : (y.op == 6) <;> cases h2 : (y.size == s.size) <;> cases h3 : (y.a == s.a) <;> cases h4 : (y.off == s.off)
 all_goals
  have hR : Hid (hidesF s y = (y.op == 6 && (y.size == s.size && (y.a == s.a && y.off == s.off)))) := rfl
  rw [h1, h2, h3, h4] at hR
  go_enter Try.func107, Try.ntmps107
  go_wp2
  go_ret
  exact ⟨ret_b hR.out.symm, hb _ _⟩
theorem stops_v (s y : In) (va ub : Value) (w : World) :
  Calls Try.prog 108 #[aggI s va, aggI y ub] w fun e w' => e = .returned (.bool (stopsF s y)) ∧ Below w.heap.size w w' := by
 have HD : Hid (∀ w, Calls Try.prog 58 #[aggI y ub] w fun e w' => e = .returned (.int .i64 (defI y)) ∧ Below w.heap.size w w') := def_v y ub
 unfold aggI at *
 have hb : ∀ o o' : Obj, Below w.heap.size w ((w.alloc o).alloc o') := fun o o' => (below_alloc w o).alloc (by simp) o'
 have hR : Hid (stopsF s y = (y.op == 5 || (y.op == 9 || (y.op == 12 || defI y == s.a)))) := rfl
 cases h1 : (y.op == 5)
 ·cases h2 : (y.op == 9)
  ·cases h3 : (y.op == 12)
   ·rw [h1, h2, h3] at hR
    go_enter Try.func108, Try.ntmps108
    go_wp2_with fail
    refine wp_region_junk (fun _ => True) (by kernel_rfl) ?_
    refine J_mobs [0, 1, 2, 3, 4, 5, 6, 7, 8, 9, 10, 11, 12, 13, 14] _ _ _ _ (by kernel_rfl) ?_
    simp only [List.map_cons, List.map_nil, List.getElem?_toArray, List.getElem?_cons_succ, List.getElem?_cons_zero, Option.getD_some, List.size_toArray, List.length_cons, List.length_nil, Nat.reduceAdd, Nat.reduceSub]
    repeat (go_big_quiet_step (fail))
    refine wpQuiet_nil ?_
    refine J_call 15 _ (.int .i64 (defI y)) rfl (by kernel_rfl) rfl ?_ ?_
    all_goals simp only [List.getElem_toArray, List.getElem_cons_succ, List.getElem_cons_zero]
    ·intro wk hk
     go_wp2_with fail
     refine (HD.out _).mono ?_
     rintro e wz ⟨rfl, hb⟩
     go_wp2_with fail
     exact ⟨rfl, hb⟩
    simp only [Act.put, List.setIfInBounds_toArray, List.set_cons_succ, List.set_cons_zero]
    refine J_mobs [16, 17, 18, 19, 20] _ _ _ _ (by kernel_rfl) ?_
    simp only [List.map_cons, List.map_nil, List.getElem?_toArray, List.getElem?_cons_succ, List.getElem?_cons_zero, Option.getD_some, List.size_toArray, List.length_cons, List.length_nil, Nat.reduceAdd, Nat.reduceSub]
    repeat (go_big_quiet_step (fail))
    refine wpQuiet_nil ?_
    refine J_done (by kernel_rfl) (fun wj hj => ?_) _
    go_wp2_with fail
    go_ret
    exact ⟨ret_b hR.out.symm, (hb _ _).trans (hj.mono (hb _ _).size)⟩
   ·rw [h1, h2, h3] at hR
    go_enter Try.func108, Try.ntmps108
    go_wp2_with fail
    go_quiet (fail)
    go_wp2_with fail
    go_ret
    exact ⟨ret_b hR.out.symm, drewN_b (hb _ _) _⟩
  ·rw [h1, h2] at hR
   go_enter Try.func108, Try.ntmps108
   go_wp2_with fail
   go_quiet (fail)
   go_wp2_with fail
   go_ret
   exact ⟨ret_b hR.out.symm, drewN_b (hb _ _) _⟩
 ·rw [h1] at hR
  go_enter Try.func108, Try.ntmps108
  go_wp2_with fail
  go_quiet (fail)
  go_wp2_with fail
  go_ret
  exact ⟨ret_b hR.out.symm, drewN_b (hb _ _) _⟩
end Go.Proofs.Ytnnhobbabcfogaa

set_option linter.all false
namespace Go.Proofs.Ytnnhobbabcfogaa
open Go.ChangeShapes Go.WideShapes Go.ChangeAt Go.RowKit
set_option maxHeartbeats 4000000
set_option maxRecDepth 100000
set_option linter.unusedVariables false

theorem hidden_c (s : In) (va : Value) (a : Option Addr) (n c : Nat) (L : List In) (w : World) (hL : RdIns w (.slice a n c) L) (h60 : L.length ≤ 100000) :
  Calls Try.prog 61 #[aggI s va, .slice a n c] w fun e w' => e = .returned (.bool (hiddenF s L)) ∧ Below w.heap.size w w' := by
 have HH : Hid (∀ (y : In) (ub : Value) (w : World), Calls Try.prog 107 #[aggI s va, aggI y ub] w fun e w' => e = .returned (.bool (hidesF s y)) ∧ Below w.heap.size w w') := fun y ub w => hides_v s y va ub w
 have HS : Hid (∀ (y : In) (ub : Value) (w : World), Calls Try.prog 108 #[aggI s va, aggI y ub] w fun e w' => e = .returned (.bool (stopsF s y)) ∧ Below w.heap.size w w') := fun y ub w => stops_v s y va ub w
 obtain rfl : n = L.length := (RdIns.at hL).1
 have HL := Lib.hid hL
 have hL' := hL
 obtain ⟨a', c', e, hc1, hc2, -⟩ := hL'
 simp only [Value.slice.injEq] at e
 obtain ⟨rfl, -, rfl⟩ := e
 unfold maxLen at hc2
 clear hL
 unfold aggI at *
 go_enter Try.func61, Try.ntmps61
 go_wp2_with fail
 obtain ⟨W0, hW0⟩ : ∃ W0, W0 = w.alloc (.cells #[.int .i64 s.op, .int .i64 s.d, .int .i64 s.a, .int .i64 s.b, .int .i64 s.fn, .int .i64 s.obj, .int .i64 s.off, .int .i64 s.size, .int .u32 s.num, va, .bool s.log] 56) := ⟨_, rfl⟩
 have H0 : Hid (W0.heap[w.heap.size]? = some (.cells #[.int .i64 s.op, .int .i64 s.d, .int .i64 s.a, .int .i64 s.b, .int .i64 s.fn, .int .i64 s.obj, .int .i64 s.off, .int .i64 s.size, .int .u32 s.num, va, .bool s.log] 56)) := by rw [hW0]; exact heap_alloc_new w _
 have B0 : Hid (Below w.heap.size w W0) := by rw [hW0]; exact below_alloc w _
 rw [← hW0]
 clear hW0
 have l0 := (Array.getElem?_eq_some_iff.1 H0.out).1
 go_loopw [9] (fun i wr => ∃ k : Nat, k ≤ L.length ∧ i = .int .i64 (k : Int) ∧ Hid (Below W0.heap.size W0 wr) ∧ Hid (hiddenF s (L.drop k) = hiddenF s L)) (fun i _ => L.length - (intOf i).toNat)
 case atStart => exact ⟨0, Nat.zero_le _, rfl, Below.refl _ _, rfl⟩
 case round =>
  obtain ⟨k, hk, rfl, hB, hK⟩ := hrel
  by_cases hlt : k < L.length
  ·have hE : Ext w wr := (Ext.below B0.out).trans (Ext.below hB.out)
   obtain ⟨bi, oi, vx, rfl, hbw, hva, d0, d1, d2, d3, d4, d5, d6, d7, d8, d9, d10⟩ := (RdIns.at (HL.out.ext hE)).2 k hlt
   obtain ⟨sa, sc, rfl, -⟩ := hva
   obtain ⟨t0, t1, t2, t3, t4, t5, t6, t7, t8, t9, t10, -⟩ := cl11 ((hB.out.block _ l0).trans H0.out)
   have HD := Lib.hid (hiddenF_drop s L hlt)
   generalize L.getD k default = y at *
   have lr : W0.heap.size ≤ wr.heap.size := hB.out.size
   have lw0 : w.heap.size < wr.heap.size := by omega
   go_wp2_with fail
   obtain ⟨W1, hW1⟩ : ∃ W1, W1 = wr.alloc (.cells #[.int .i64 y.op, .int .i64 y.d, .int .i64 y.a, .int .i64 y.b, .int .i64 y.fn, .int .i64 y.obj, .int .i64 y.off, .int .i64 y.size, .int .u32 y.num, .slice sa y.args.length sc, .bool y.log] 56) := ⟨_, rfl⟩
   have H1 : Hid (W1.heap[wr.heap.size]? = some (.cells #[.int .i64 y.op, .int .i64 y.d, .int .i64 y.a, .int .i64 y.b, .int .i64 y.fn, .int .i64 y.obj, .int .i64 y.off, .int .i64 y.size, .int .u32 y.num, .slice sa y.args.length sc, .bool y.log] 56)) := by rw [hW1]; exact heap_alloc_new wr _
   have B1 : Hid (Below W0.heap.size W0 W1) := by rw [hW1]; exact hB.out.trans ((below_alloc wr _).mono lr)
   rw [← hW1]
   clear hW1 t0 t1 t2 t3 t4 t5 t6 t7 t8 t9 t10
   clear d0 d1 d2 d3 d4 d5 d6 d7 d8 d9 d10
   have l1 := (Array.getElem?_eq_some_iff.1 H1.out).1
   have lw : wr.heap.size < W1.heap.size := l1
   refine (HH.out y _ W1).mono ?_
   rintro e w3 ⟨rfl, hb3⟩
   have H3 : Hid (w3.heap[wr.heap.size]? = some (.cells #[.int .i64 y.op, .int .i64 y.d, .int .i64 y.a, .int .i64 y.b, .int .i64 y.fn, .int .i64 y.obj, .int .i64 y.off, .int .i64 y.size, .int .u32 y.num, .slice sa y.args.length sc, .bool y.log] 56)) := (hb3.block _ l1).trans H1.out
   have B3 : Hid (Below W0.heap.size W0 w3) := B1.out.trans (hb3.mono B1.out.size)
   clear hb3 H1 B1 l1 lw
   cases hh : hidesF s y
   ·obtain ⟨t0, t1, t2, t3, t4, t5, t6, t7, t8, t9, t10, -⟩ := cl11 ((B3.out.block _ l0).trans H0.out)
    obtain ⟨d0, d1, d2, d3, d4, d5, d6, d7, d8, d9, d10, -⟩ := cl11 H3.out
    rw [hh] at HD
    go_wp2_with fail
    refine (HS.out y _ w3).mono ?_
    rintro e w4 ⟨rfl, hb4⟩
    have B4 : Hid (Below W0.heap.size W0 w4) := B3.out.trans (hb4.mono B3.out.size)
    clear hb4 t0 t1 t2 t3 t4 t5 t6 t7 t8 t9 t10 H3 B3
    clear d0 d1 d2 d3 d4 d5 d6 d7 d8 d9 d10
    cases hs : stopsF s y
    ·rw [hs] at HD
     have HD2 : Hid (hiddenF s (L.drop (k + 1)) = hiddenF s L) := HD.out.symm.trans hK.out
     clear hh hs
     go_wp2_with fail
     go_roundw
     case rel => exact ⟨k + 1, by omega, by go_num, B4, HD2⟩
     case measure => simp [intOf]; omega
    ·rw [hs] at HD
     have HD2 : Hid (hiddenF s L = false) := hK.out.symm.trans HD.out
     clear hh hs
     go_wp2_with fail
     go_ret
     exact ⟨ret_b HD2.out.symm, B0.out.trans (B4.out.mono B0.out.size)⟩
   ·rw [hh] at HD
    have HD2 : Hid (hiddenF s L = true) := hK.out.symm.trans HD.out
    clear hh
    go_wp2_with fail
    go_ret
    exact ⟨ret_b HD2.out.symm, B0.out.trans (B3.out.mono B0.out.size)⟩
  ·obtain rfl : k = L.length := by omega
   have hR : Hid (hiddenF s L = false) := by rw [← hK.out]; exact hiddenF_end s L
   go_wp2_with fail
   go_ret
   exact ⟨ret_b hR.out.symm, B0.out.trans (hB.out.mono B0.out.size)⟩
end Go.Proofs.Ytnnhobbabcfogaa

set_option linter.all false
namespace Go.Proofs.Ytnnhobbabcfogaa
open Go.ChangeShapes Go.WideShapes Go.ChangeAt Go.RowKit
set_option maxHeartbeats 4000000
set_option maxRecDepth 100000
set_option linter.unusedVariables false

theorem places_yes (w : World) (v : Value) (u : Value) (h : Nat → Bool) (l : List Bool) (hl : ∀ i, i < l.length → l.getD i false = h i) (h1 : RdI w v (posU h l.length)) (h2 : RdB w u l) (hlen : l.length ≤ 100000) :
  Calls Try.prog 26 #[v, u] w fun e w' => e = .returned (.bool true) ∧ w' = w := by
 obtain ⟨av, cv, rfl, hv1, hv2, hv3⟩ := h1
 obtain ⟨au, cu, rfl, hu1, hu2, hu3⟩ := h2
 unfold maxLen at hv2 hu2
 have HV := Lib.hid hv3
 have HU := Lib.hid hu3
 have HL := Lib.hid hl
 have hN := posU_le h l.length
 clear hv3 hu3 hl
 go_enter Try.func26, Try.ntmps26
 go_wp2_with fail
 go_loopw [5, 6] (fun n i wr => ∃ k : Nat, k ≤ l.length ∧ i = .int .i64 (k : Int) ∧ n = .int .i64 ((posU h k).length : Int) ∧ wr = w) (fun _ i _ => l.length - (intOf i).toNat)
 case atStart => exact ⟨0, Nat.zero_le _, rfl, rfl, rfl⟩
 case round =>
  obtain ⟨k, hk, rfl, rfl, rfl⟩ := hrel
  by_cases hlt : k < l.length
  ·obtain ⟨b2, o2, rfl, c2⟩ := HU.out k hlt
   rw [HL.out k hlt] at c2
   simp only [Nat.mul_one, Nat.add_zero] at c2
   have hNk := posU_le h k
   cases hh : h k
   ·have HN := Lib.hid (posU_no hh)
    rw [hh] at c2
    clear hh
    go_wp2_with fail
    go_roundw
    case rel => exact ⟨k + 1, by omega, by go_num, by rw [HN.out], trivial⟩
    case measure => simp [intOf]; omega
   ·have HN := Lib.hid (posU_yes hh)
    obtain ⟨q1, q2⟩ := posU_at h hlt hh
    obtain ⟨b1, o1, rfl, c1⟩ := HV.out _ q1
    rw [q2] at c1
    simp only [Nat.mul_one, Nat.add_zero] at c1
    rw [hh] at c2
    clear hh
    go_wp2_with fail
    go_roundw
    case rel => exact ⟨k + 1, by omega, by go_num, by rw [HN.out]; simp, trivial⟩
    case measure => simp [intOf]; omega
  ·obtain rfl : k = l.length := by omega
   go_wp2_with fail
   go_ret
   exact ⟨rfl, rfl⟩
theorem ridle_c (p : Pr) (V : Value) (n k : Nat) (w : World) (hP : PrV w V p) (hlen : p.blks.length ≤ 1000) (hin : ∀ j, j < p.blks.length → (p.blks.getD j default).ins.length ≤ 1000)
  (harg : ∀ i, i < p.blks.length → ∀ j, j < (p.blks.getD i default).ins.length → ((p.blks.getD i default).ins.getD j default).args.length ≤ 1000) (hn : n < p.blks.length) (hk : k < (p.blks.getD n default).ins.length) :
  Calls Try.prog 24 #[V, .int .i64 (n : Int), .int .i64 (k : Int)] w fun e w' => e = .returned (.bool (idleI p n k)) ∧ Below w.heap.size w w' := by
 have hk1 := hin n hn
 have EL : Hid (∀ w', Ext w w' → Calls Try.prog 47 #[V, .int .i64 (n : Int), .int .i64 ((k : Int) + 1), .int .i64 ((p.blks.getD n default).ins.getD k default).d] w' fun e w'' => e = .returned (.bool (liveP p n (k + 1) ((p.blks.getD n default).ins.getD k default).d)) ∧ Below w'.heap.size w' w'') := fun w' he => by
  have := rlive_c p V n (k + 1) ((p.blks.getD n default).ins.getD k default).d w' (hP.ext he) hlen hin harg hn hk
  simpa using this
 have hR : Hid (idleI p n k = (pureI ((p.blks.getD n default).ins.getD k default) && !liveP p n (k + 1) ((p.blks.getD n default).ins.getD k default).d)) := rfl
 clear hin harg
 obtain ⟨nm, vo, vb, rfl, -, hvb⟩ := hP
 have hvb' := hvb
 obtain ⟨a, c, rfl, hc1, hc2, -⟩ := hvb'
 unfold maxLen at hc2
 obtain ⟨bb, ob, vi, rfl, hvi, c0, -⟩ := (RdBks.at hvb).2 n hn
 have hvi' := hvi
 obtain ⟨ai, ci, rfl, hi1, hi2, -⟩ := hvi'
 unfold maxLen at hi2
 have hbb := World.block_lt_of_cell? w _ c0
 obtain ⟨bi, oi, vx, rfl, hbw, hva, d0, d1, d2, d3, d4, d5, d6, d7, d8, d9, d10⟩ := (RdIns.at hvi).2 k hk
 obtain ⟨sa, sc, rfl, -⟩ := hva
 clear hvb hvi
 have hgk0 : (p.blks.getD n default).ins.getD k default = (p.blks.getD n default).ins.getD k default := rfl
 generalize (p.blks.getD n default).ins.getD k default = y at *
 generalize (p.blks.getD n default).ins = L at *
 clear hgk0
 have HB : Hid (∀ o o' : Obj, Below w.heap.size w ((w.alloc o).alloc o')) := fun o o' => (below_alloc w o).alloc (by simp) o'
 go_enter Try.func24, Try.ntmps24
 go_wp2_with (go_at_call 47; refine (EL.out _ (Ext.below (HB.out _ _))).mono ?_; rintro e w2 ⟨rfl, hb2⟩; have hb2 := Lib.hid ((HB.out _ _).trans (hb2.mono (HB.out _ _).size)))
 all_goals
  go_ret
  simp only [beq_iff_eq, beq_eq_false_iff_ne, ne_eq, bne_iff_ne, bne_eq_false_iff_eq] at *
  first
   | exact ⟨ret_b (by rw [hR.out, show pureI y = true by unfold pureI; simp; omega]; rfl), hb2.out⟩
   | exact ⟨ret_b (by rw [hR.out]; show (_ && _) = (_ && _); congr 1; unfold pureI; rw [Bool.eq_iff_iff]; simp; omega), hb2.out⟩
   | exact ⟨ret_b (by rw [hR.out, show pureI y = false by unfold pureI; simp; omega]; rfl), HB.out _ _⟩
end Go.Proofs.Ytnnhobbabcfogaa

set_option linter.all false
namespace Go.Proofs.Ytnnhobbabcfogaa
open Go.ChangeShapes Go.WideShapes Go.ChangeAt Go.RowKit
set_option maxHeartbeats 400000
set_option maxRecDepth 10000

/-- what lies in none of the walk's blocks stays, and its rows are those of before or new -/
structure FrR (w w' : World) (bw bs : Nat) (ov bv ov' bv' : Value) : Prop where
 os : w'.os = w.os
 tape : w'.tape = w.tape
 output : w'.output = w.output
 size : w.heap.size ≤ w'.heap.size
 block : ∀ k, k < w.heap.size → k ≠ bw → k ≠ bs → ov.ownBlock ≠ some k → bv.ownBlock ≠ some k → w'.heap[k]? = w.heap[k]?
 no : NewB w ov ov'
 nb : NewB w bv bv'
theorem FrR.refl (w : World) (bw bs : Nat) (ov bv : Value) : FrR w w bw bs ov bv ov bv := ⟨rfl, rfl, rfl, Nat.le_refl _, fun _ _ _ _ _ _ => rfl, .refl _ _, .refl _ _⟩
theorem newB_far {w : World} {v v' : Value} {k : Nat} (h : NewB w v v') (hk : k < w.heap.size) (hv : v.ownBlock ≠ some k) : v'.ownBlock ≠ some k := by
 rcases h with e | ⟨j, hj, e⟩
 ·rw [e]; exact hv
 ·rw [e]; intro e2; simp only [Option.some.injEq] at e2; omega
theorem NewB.trans {w w1 : World} {v v1 v2 : Value} (h : NewB w v v1) (h1 : NewB w1 v1 v2) (hs : w.heap.size ≤ w1.heap.size) : NewB w v v2 := by
 rcases h1 with e | ⟨j, hj, e⟩
 ·rcases h with e0 | ⟨k, hk, e0⟩
  ·exact .inl (e.trans e0)
  ·exact .inr ⟨k, hk, e.trans e0⟩
 ·exact .inr ⟨j, Nat.le_trans hs hj, e⟩
theorem FrR.trans {a b c : World} {bw bs : Nat} {o1 b1 o2 b2 o3 b3 : Value} (h : FrR a b bw bs o1 b1 o2 b2) (h' : FrR b c bw bs o2 b2 o3 b3) : FrR a c bw bs o1 b1 o3 b3 :=
 ⟨h'.os.trans h.os, h'.tape.trans h.tape, h'.output.trans h.output, Nat.le_trans h.size h'.size,
   fun k hk k1 k2 k3 k4 => (h'.block k (Nat.lt_of_lt_of_le hk h.size) k1 k2 (newB_far h.no hk k3) (newB_far h.nb hk k4)).trans (h.block k hk k1 k2 k3 k4),
   h.no.trans h'.no h.size, h.nb.trans h'.nb h.size⟩
section
variable {w : World} {bw bs B n : Nat} {s : S3} {ov bv : Value}
end
end Go.Proofs.Ytnnhobbabcfogaa
