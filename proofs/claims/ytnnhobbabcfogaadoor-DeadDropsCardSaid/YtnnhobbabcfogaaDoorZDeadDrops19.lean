/-
 Several moves of a drawn region at once.; Contracts: which stores are hidden; places of which something holds; the document's idle instructions and stores.; Contracts: is a store hidden by what comes behind it; the document's idle instructions and stores; places of which something holds.; Contracts: the document's idle instructions and stores; places of which something holds.; How the reference's walk lies in memory, and what its stores and appends make of it.
-/
import Derived.Test.YtnnhobbabcfogaaDoorZDeadDrops17
import Derived.Test.YtnnhobbabcfogaaDoorZDeadDrops01
import Derived.BigQuiet
import Derived.Test.YtnnhobbabcfogaaDoorZDeadDrops02
import Derived.Test.YtnnhobbabcfogaaDoorZDeadDrops04
import Derived.Test.YtnnhobbabcfogaaDoorZDeadDrops13
import Derived.Test.YtnnhobbabcfogaaDoorZDeadDrops18
import Derived.Test.YtnnhobbabcfogaaDoorZDeadDrops15

set_option linter.all false
namespace Go.Proofs.YtnnhobbabcfogaaDoor
open Go Go.RowKit
set_option linter.unusedVariables false

def opD : Oper := { dst := none, op := .move (.tmp 0), type := 0, pos := "", after := #[], guard := none }
def movesOk (look : Oper → Bool) (ops : Array Oper) : List Nat → Array Bool → Bool
 | [], _ => true
 | i :: is, listed => (closedB ops listed && (Region.noSelect ops && (Region.ready .any ops listed).contains i && Region.free .any ops listed i && ((ops[i]?).map look).getD false)) && movesOk look ops is (listed.setIfInBounds i true)
def listAll (is : List Nat) (listed : Array Bool) : Array Bool := is.foldl (fun l i => l.setIfInBounds i true) listed
def lookJ (o : Oper) : Bool := lookOp o || lookB o
section
variable {P : Program} {ops : Array Oper} {Q : Act → World → Prop} {S : Nat → Prop}
theorem quiet_one {C : World → Prop} {K : Act → Prop} {o : Oper} {l : List Oper} {a : Act} (h : wpQuiet P ops C K (o :: l) a) : wpQuiet P ops C (fun a' => wpQuiet P ops C K l a') [o] a := h
theorem quiet_mono {C : World → Prop} {K K' : Act → Prop} (hk : ∀ a, K a → K' a) {o : Oper} {a : Act} (h : wpQuiet P ops C K [o] a) : wpQuiet P ops C K' [o] a := by
 unfold wpQuiet at h ⊢
 split
 ·rename_i hw
  rw [if_pos hw] at h
  obtain ⟨v, h1, h2⟩ := h
  exact ⟨v, h1, hk _ h2⟩
 ·rename_i hw
  rw [if_neg hw] at h
  exact hk _ h
theorem J_mobs : ∀ (is : List Nat) (n : Nat) (listed : Array Bool) (a : Act) (w : World), (decide (is.length ≤ n) && movesOk lookJ ops is listed) = true →
  wpQuiet P ops (fun w' => ∃ x, w' = kx S w x) (fun a' => wpJs S P ops Q (n - is.length) (listAll is listed) a' w) (is.map fun i => (ops[i]?).getD opD) a → wpJs S P ops Q n listed a w
 | [], n, listed, a, w, _, h => h
 | i :: is, n, listed, a, w, hc, h => by
  simp only [Bool.and_eq_true, decide_eq_true_eq, movesOk] at hc
  obtain ⟨hl, ⟨h1, ⟨⟨h2, h3⟩, h4⟩, h5⟩, h6⟩ := hc
  cases n with
  | zero => exact absurd hl (by simp)
  | succ n =>
   cases ho : ops[i]? with
   | none => rw [ho] at h5; cases h5
   | some o =>
    rw [ho] at h5
    have h5 : lookJ o = true := h5
    refine J_mob i o ho (by simp only [Bool.and_eq_true]; exact ⟨h1, ⟨⟨h2, h3⟩, h4⟩, h5⟩) ?_
    rw [List.map_cons, ho] at h
    refine quiet_mono (fun a' h' => ?_) (quiet_one h)
    refine J_mobs is n _ a' w (by simp only [Bool.and_eq_true, decide_eq_true_eq]; exact ⟨by simpa using hl, h6⟩) ?_
    have e : n + 1 - (i :: is).length = n - is.length := by simp
    rw [e] at h'
    exact h'
theorem E_mobs : ∀ (is : List Nat) (n : Nat) (listed : Array Bool) (a : Act) (w : World), (decide (is.length ≤ n) && movesOk lookOp ops is listed) = true →
  wpQuiet P ops (fun w' => ∃ x, w' = kp S w x) (fun a' => wpE S P ops Q (n - is.length) (listAll is listed) a' w) (is.map fun i => (ops[i]?).getD opD) a → wpE S P ops Q n listed a w
 | [], n, listed, a, w, _, h => h
 | i :: is, n, listed, a, w, hc, h => by
  simp only [Bool.and_eq_true, decide_eq_true_eq, movesOk] at hc
  obtain ⟨hl, ⟨h1, ⟨⟨h2, h3⟩, h4⟩, h5⟩, h6⟩ := hc
  cases n with
  | zero => exact absurd hl (by simp)
  | succ n =>
   cases ho : ops[i]? with
   | none => rw [ho] at h5; cases h5
   | some o =>
    rw [ho] at h5
    have h5 : lookOp o = true := h5
    refine E_mob i o ho (by simp only [Bool.and_eq_true]; exact ⟨h1, ⟨⟨h2, h3⟩, h4⟩, h5⟩) ?_
    rw [List.map_cons, ho] at h
    refine quiet_mono (fun a' h' => ?_) (quiet_one h)
    refine E_mobs is n _ a' w (by simp only [Bool.and_eq_true, decide_eq_true_eq]; exact ⟨by simpa using hl, h6⟩) ?_
    have e : n + 1 - (i :: is).length = n - is.length := by simp
    rw [e] at h'
    exact h'
theorem E_mob2s : ∀ (is : List Nat) (n : Nat) (listed : Array Bool) (a : Act) (w : World), (decide (is.length ≤ n) && movesOk lookJ ops is listed) = true →
  wpQuiet P ops (fun w' => ∃ x, w' = kp S w x) (fun a' => wpE S P ops Q (n - is.length) (listAll is listed) a' w) (is.map fun i => (ops[i]?).getD opD) a → wpE S P ops Q n listed a w
 | [], n, listed, a, w, _, h => h
 | i :: is, n, listed, a, w, hc, h => by
  simp only [Bool.and_eq_true, decide_eq_true_eq, movesOk] at hc
  obtain ⟨hl, ⟨h1, ⟨⟨h2, h3⟩, h4⟩, h5⟩, h6⟩ := hc
  cases n with
  | zero => exact absurd hl (by simp)
  | succ n =>
   cases ho : ops[i]? with
   | none => rw [ho] at h5; cases h5
   | some o =>
    rw [ho] at h5
    have h5 : lookJ o = true := h5
    refine E_mob2 i o ho (by simp only [Bool.and_eq_true]; exact ⟨h1, ⟨⟨h2, h3⟩, h4⟩, h5⟩) ?_
    rw [List.map_cons, ho] at h
    refine quiet_mono (fun a' h' => ?_) (quiet_one h)
    refine E_mob2s is n _ a' w (by simp only [Bool.and_eq_true, decide_eq_true_eq]; exact ⟨by simpa using hl, h6⟩) ?_
    have e : n + 1 - (i :: is).length = n - is.length := by simp
    rw [e] at h'
    exact h'
end
/-! cells of small blocks -/
theorem cl4 {w : World} {b : Nat} {t : TypeId} {c0 c1 c2 c3 : Value} (h : w.heap[b]? = some (.cells #[c0, c1, c2, c3] t (0, 0))) :
  w.cell? ⟨b, 0, none⟩ = some c0 ∧ w.cell? ⟨b, 1, none⟩ = some c1 ∧ w.cell? ⟨b, 2, none⟩ = some c2 ∧ w.cell? ⟨b, 3, none⟩ = some c3 ∧ b < w.heap.size :=
 ⟨cell_of_heap h 0, cell_of_heap h 1, cell_of_heap h 2, cell_of_heap h 3, (Array.getElem?_eq_some_iff.1 h).1⟩
theorem cl5 {w : World} {b : Nat} {t : TypeId} {c0 c1 c2 c3 c4 : Value} (h : w.heap[b]? = some (.cells #[c0, c1, c2, c3, c4] t (0, 0))) :
  w.cell? ⟨b, 0, none⟩ = some c0 ∧ w.cell? ⟨b, 1, none⟩ = some c1 ∧ w.cell? ⟨b, 2, none⟩ = some c2 ∧ w.cell? ⟨b, 3, none⟩ = some c3 ∧ w.cell? ⟨b, 4, none⟩ = some c4 ∧ b < w.heap.size :=
 ⟨cell_of_heap h 0, cell_of_heap h 1, cell_of_heap h 2, cell_of_heap h 3, cell_of_heap h 4, (Array.getElem?_eq_some_iff.1 h).1⟩
theorem cl6 {w : World} {b : Nat} {t : TypeId} {c0 c1 c2 c3 c4 c5 : Value} (h : w.heap[b]? = some (.cells #[c0, c1, c2, c3, c4, c5] t (0, 0))) :
  w.cell? ⟨b, 0, none⟩ = some c0 ∧ w.cell? ⟨b, 1, none⟩ = some c1 ∧ w.cell? ⟨b, 2, none⟩ = some c2 ∧ w.cell? ⟨b, 3, none⟩ = some c3 ∧ w.cell? ⟨b, 4, none⟩ = some c4 ∧ w.cell? ⟨b, 5, none⟩ = some c5 ∧ b < w.heap.size :=
 ⟨cell_of_heap h 0, cell_of_heap h 1, cell_of_heap h 2, cell_of_heap h 3, cell_of_heap h 4, cell_of_heap h 5, (Array.getElem?_eq_some_iff.1 h).1⟩
theorem cl11 {w : World} {b : Nat} {t : TypeId} {c0 c1 c2 c3 c4 c5 c6 c7 c8 c9 c10 : Value} (h : w.heap[b]? = some (.cells #[c0, c1, c2, c3, c4, c5, c6, c7, c8, c9, c10] t (0, 0))) :
  w.cell? ⟨b, 0, none⟩ = some c0 ∧ w.cell? ⟨b, 1, none⟩ = some c1 ∧ w.cell? ⟨b, 2, none⟩ = some c2 ∧ w.cell? ⟨b, 3, none⟩ = some c3 ∧ w.cell? ⟨b, 4, none⟩ = some c4 ∧ w.cell? ⟨b, 5, none⟩ = some c5 ∧ w.cell? ⟨b, 6, none⟩ = some c6 ∧ w.cell? ⟨b, 7, none⟩ = some c7 ∧ w.cell? ⟨b, 8, none⟩ = some c8 ∧ w.cell? ⟨b, 9, none⟩ = some c9 ∧ w.cell? ⟨b, 10, none⟩ = some c10 ∧ b < w.heap.size :=
 ⟨cell_of_heap h 0, cell_of_heap h 1, cell_of_heap h 2, cell_of_heap h 3, cell_of_heap h 4, cell_of_heap h 5, cell_of_heap h 6, cell_of_heap h 7, cell_of_heap h 8, cell_of_heap h 9, cell_of_heap h 10, (Array.getElem?_eq_some_iff.1 h).1⟩
end Go.Proofs.YtnnhobbabcfogaaDoor

set_option linter.all false
namespace Go.Proofs.YtnnhobbabcfogaaDoor
open Go.ChangeShapes Go.WideShapes Go.ChangeAt Go.RowKit
set_option maxHeartbeats 4000000
set_option maxRecDepth 100000
set_option linter.unusedVariables false

/-! what can be read stays, told by block and place -/
abbrev KeepT (w w' : World) : Prop := KeepX (fun _ => True) w w'
theorem Rows'.keep {w w' : World} {v : Value} {k n : Nat} {R R' : Nat → (Nat → Option Value) → Prop} (h : Rows' w v k n R) (he : KeepT w w') (hR : ∀ i c c', Sub c c' → R i c → R' i c') : Rows' w' v k n R' := by
 obtain ⟨a, c, h1, h2, h3, h4⟩ := h
 refine ⟨a, c, h1, h2, h3, fun i hi => ?_⟩
 obtain ⟨b, o, e, r⟩ := h4 i hi
 exact ⟨b, o, e, hR i _ _ (fun j v hv => he _ _ _ trivial hv) r⟩
theorem RdI.keep {w w' : World} {v : Value} {l : List Int} (h : RdI w v l) (he : KeepT w w') : RdI w' v l := Rows'.keep h he fun _ _ _ hs h => hs _ _ h
theorem InC.keep {w w' : World} {c c' : Nat → Option Value} {i : In} (h : InC w c i) (he : KeepT w w') (hs : Sub c c') : InC w' c' i := by
 obtain ⟨h0, h1, h2, h3, h4, h5, h6, h7, h8, ⟨v, h9, hv⟩, h10⟩ := h
 exact ⟨hs _ _ h0, hs _ _ h1, hs _ _ h2, hs _ _ h3, hs _ _ h4, hs _ _ h5, hs _ _ h6, hs _ _ h7, hs _ _ h8, ⟨v, hs _ _ h9, hv.keep he⟩, hs _ _ h10⟩
theorem RdIns.keep {w w' : World} {v : Value} {l : List In} (h : RdIns w v l) (he : KeepT w w') : RdIns w' v l := Rows'.keep h he fun _ _ _ hs h => h.keep he hs
theorem BkC.keep {w w' : World} {c c' : Nat → Option Value} {b : Bk} (h : BkC w c b) (he : KeepT w w') (hs : Sub c c') : BkC w' c' b := by
 obtain ⟨⟨v, h0, hv⟩, h1, h2, h3, h4⟩ := h
 exact ⟨⟨v, hs _ _ h0, hv.keep he⟩, hs _ _ h1, hs _ _ h2, hs _ _ h3, hs _ _ h4⟩
theorem RdBks.keep {w w' : World} {v : Value} {l : List Bk} (h : RdBks w v l) (he : KeepT w w') : RdBks w' v l := Rows'.keep h he fun _ _ _ hs h => h.keep he hs
theorem RdSls.keep {w w' : World} {v : Value} {l : List Sl} (h : RdSls w v l) (he : KeepT w w') : RdSls w' v l := Rows'.keep h he fun _ _ _ hs h => h.ext hs
theorem PrV.keep {w w' : World} {v : Value} {p : Pr} (h : PrV w v p) (he : KeepT w w') : PrV w' v p := let ⟨nm, vo, vb, e, h, k⟩ := h; ⟨nm, vo, vb, e, h.keep he, k.keep he⟩

theorem drewN_b {B : Nat} {w w1 : World} (h : Below B w w1) (n : Nat) : Below B w (w1.drewN n) := ⟨h.os, h.tape, h.output, h.size, h.block⟩
/-- an instruction by value, its row of arguments whatever it is -/
def aggI (i : In) (va : Value) : Value := .agg #[.int .i64 i.op, .int .i64 i.d, .int .i64 i.a, .int .i64 i.b, .int .i64 i.fn, .int .i64 i.obj, .int .i64 i.off, .int .i64 i.size, .int .u32 i.num, va, .bool i.log]
theorem def_v (i : In) (va : Value) (w : World) :
  Calls Tryd.prog 19 #[aggI i va] w fun e w' => e = .returned (.int .i64 (defI i)) ∧ Below w.heap.size w w' := by
 unfold aggI
 go_enter Tryd.func19, Tryd.ntmps19
 go_wp2
 all_goals
  go_ret
  simp only [beq_iff_eq, beq_eq_false_iff_ne, ne_eq] at *
  exact ⟨ret_i (by unfold defI; first | rw [if_pos (by omega)] | rw [if_neg (by omega)]), below_alloc _ _⟩
theorem hides_v (s y : In) (va ub : Value) (w : World) :
  Calls Tryd.prog 111 #[aggI s va, aggI y ub] w fun e w' => e = .returned (.bool (hidesF s y)) ∧ Below w.heap.size w w' := by
 unfold aggI
 have hb : ∀ o o' : Obj, Below w.heap.size w ((w.alloc o).alloc o') := fun o o' => (below_alloc w o).alloc (by simp) o'
 cases h1 : (y.op == 6) <;> cases h2 : (y.size == s.size) <;> cases h3 : (y.a == s.a) <;> cases h4 : (y.off == s.off)
 all_goals
  have hR : Hid (hidesF s y = (y.op == 6 && (y.size == s.size && (y.a == s.a && y.off == s.off)))) := rfl
  rw [h1, h2, h3, h4] at hR
  go_enter Tryd.func111, Tryd.ntmps111
  go_wp2
  go_ret
  exact ⟨ret_b hR.out.symm, hb _ _⟩
theorem stops_v (s y : In) (va ub : Value) (w : World) :
  Calls Tryd.prog 112 #[aggI s va, aggI y ub] w fun e w' => e = .returned (.bool (stopsF s y)) ∧ Below w.heap.size w w' := by
 have HD : Hid (∀ w, Calls Tryd.prog 19 #[aggI y ub] w fun e w' => e = .returned (.int .i64 (defI y)) ∧ Below w.heap.size w w') := def_v y ub
 unfold aggI at *
 have hb : ∀ o o' : Obj, Below w.heap.size w ((w.alloc o).alloc o') := fun o o' => (below_alloc w o).alloc (by simp) o'
 have hR : Hid (stopsF s y = (y.op == 5 || (y.op == 9 || (y.op == 12 || defI y == s.a)))) := rfl
 cases h1 : (y.op == 5)
 ·cases h2 : (y.op == 9)
  ·cases h3 : (y.op == 12)
   ·rw [h1, h2, h3] at hR
    go_enter Tryd.func112, Tryd.ntmps112
    go_wp2_with fail
    refine wp_region_junk (fun _ => True) (by kernel_rfl) ?_
    refine J_mobs [0, 1, 2, 3, 4, 5, 6, 7, 8, 9, 10, 11, 12, 13, 14] _ _ _ _ (by kernel_rfl) ?_
    simp only [List.map_cons, List.map_nil, List.getElem?_toArray, List.getElem?_cons_succ, List.getElem?_cons_zero, Option.getD_some, List.size_toArray, List.length_cons, List.length_nil, Nat.reduceAdd, Nat.reduceSub]
    repeat (go_big_quiet_step (fail))
    refine wpQuiet_nil ?_
    refine J_call 15 _ (.int .i64 (defI y)) rfl (by kernel_rfl) rfl ?_ ?_
    all_goals simp only [List.getElem_toArray, List.getElem_cons_succ, List.getElem_cons_zero]
    ·intro wk hk
     go_wp2_with fail
     refine (HD.out _).mono ?_
     rintro e wz ⟨rfl, hb⟩
     go_wp2_with fail
     exact ⟨rfl, hb⟩
    simp only [Act.put, List.setIfInBounds_toArray, List.set_cons_succ, List.set_cons_zero]
    refine J_mobs [16, 17, 18, 19, 20] _ _ _ _ (by kernel_rfl) ?_
    simp only [List.map_cons, List.map_nil, List.getElem?_toArray, List.getElem?_cons_succ, List.getElem?_cons_zero, Option.getD_some, List.size_toArray, List.length_cons, List.length_nil, Nat.reduceAdd, Nat.reduceSub]
    repeat (go_big_quiet_step (fail))
    refine wpQuiet_nil ?_
    refine J_done (by kernel_rfl) (fun wj hj => ?_) _
    go_wp2_with fail
    go_ret
    exact ⟨ret_b hR.out.symm, (hb _ _).trans (hj.mono (hb _ _).size)⟩
   ·rw [h1, h2, h3] at hR
    go_enter Tryd.func112, Tryd.ntmps112
    go_wp2_with fail
    go_quiet (fail)
    go_wp2_with fail
    go_ret
    exact ⟨ret_b hR.out.symm, drewN_b (hb _ _) _⟩
  ·rw [h1, h2] at hR
   go_enter Tryd.func112, Tryd.ntmps112
   go_wp2_with fail
   go_quiet (fail)
   go_wp2_with fail
   go_ret
   exact ⟨ret_b hR.out.symm, drewN_b (hb _ _) _⟩
 ·rw [h1] at hR
  go_enter Tryd.func112, Tryd.ntmps112
  go_wp2_with fail
  go_quiet (fail)
  go_wp2_with fail
  go_ret
  exact ⟨ret_b hR.out.symm, drewN_b (hb _ _) _⟩
end Go.Proofs.YtnnhobbabcfogaaDoor

set_option linter.all false
namespace Go.Proofs.YtnnhobbabcfogaaDoor
open Go.ChangeShapes Go.WideShapes Go.ChangeAt Go.RowKit
set_option maxHeartbeats 4000000
set_option maxRecDepth 100000
set_option linter.unusedVariables false

theorem hidden_c (s : In) (va : Value) (a : Option Addr) (n c : Nat) (L : List In) (w : World) (hL : RdIns w (.slice a n c) L) (h60 : L.length ≤ 100000) :
  Calls Tryd.prog 95 #[aggI s va, .slice a n c] w fun e w' => e = .returned (.bool (hiddenF s L)) ∧ Below w.heap.size w w' := by
 have HH : Hid (∀ (y : In) (ub : Value) (w : World), Calls Tryd.prog 111 #[aggI s va, aggI y ub] w fun e w' => e = .returned (.bool (hidesF s y)) ∧ Below w.heap.size w w') := fun y ub w => hides_v s y va ub w
 have HS : Hid (∀ (y : In) (ub : Value) (w : World), Calls Tryd.prog 112 #[aggI s va, aggI y ub] w fun e w' => e = .returned (.bool (stopsF s y)) ∧ Below w.heap.size w w') := fun y ub w => stops_v s y va ub w
 obtain rfl : n = L.length := (RdIns.at hL).1
 have HL := Lib.hid hL
 have hL' := hL
 obtain ⟨a', c', e, hc1, hc2, -⟩ := hL'
 simp only [Value.slice.injEq] at e
 obtain ⟨rfl, -, rfl⟩ := e
 unfold maxLen at hc2
 clear hL
 unfold aggI at *
 go_enter Tryd.func95, Tryd.ntmps95
 go_wp2_with fail
 obtain ⟨W0, hW0⟩ : ∃ W0, W0 = w.alloc (.cells #[.int .i64 s.op, .int .i64 s.d, .int .i64 s.a, .int .i64 s.b, .int .i64 s.fn, .int .i64 s.obj, .int .i64 s.off, .int .i64 s.size, .int .u32 s.num, va, .bool s.log] 45) := ⟨_, rfl⟩
 have H0 : Hid (W0.heap[w.heap.size]? = some (.cells #[.int .i64 s.op, .int .i64 s.d, .int .i64 s.a, .int .i64 s.b, .int .i64 s.fn, .int .i64 s.obj, .int .i64 s.off, .int .i64 s.size, .int .u32 s.num, va, .bool s.log] 45)) := by rw [hW0]; exact heap_alloc_new w _
 have B0 : Hid (Below w.heap.size w W0) := by rw [hW0]; exact below_alloc w _
 rw [← hW0]
 clear hW0
 have l0 := (Array.getElem?_eq_some_iff.1 H0.out).1
 go_loopw [9] (fun i wr => ∃ k : Nat, k ≤ L.length ∧ i = .int .i64 (k : Int) ∧ Hid (Below W0.heap.size W0 wr) ∧ Hid (hiddenF s (L.drop k) = hiddenF s L)) (fun i _ => L.length - (intOf i).toNat)
 case atStart => exact ⟨0, Nat.zero_le _, rfl, Below.refl _ _, rfl⟩
 case round =>
  obtain ⟨k, hk, rfl, hB, hK⟩ := hrel
  by_cases hlt : k < L.length
  ·have hE : Ext w wr := (Ext.below B0.out).trans (Ext.below hB.out)
   obtain ⟨bi, oi, vx, rfl, hbw, hva, d0, d1, d2, d3, d4, d5, d6, d7, d8, d9, d10⟩ := (RdIns.at (HL.out.ext hE)).2 k hlt
   obtain ⟨sa, sc, rfl, -⟩ := hva
   obtain ⟨t0, t1, t2, t3, t4, t5, t6, t7, t8, t9, t10, -⟩ := cl11 ((hB.out.block _ l0).trans H0.out)
   have HD := Lib.hid (hiddenF_drop s L hlt)
   generalize L.getD k default = y at *
   have lr : W0.heap.size ≤ wr.heap.size := hB.out.size
   have lw0 : w.heap.size < wr.heap.size := by omega
   go_wp2_with fail
   obtain ⟨W1, hW1⟩ : ∃ W1, W1 = wr.alloc (.cells #[.int .i64 y.op, .int .i64 y.d, .int .i64 y.a, .int .i64 y.b, .int .i64 y.fn, .int .i64 y.obj, .int .i64 y.off, .int .i64 y.size, .int .u32 y.num, .slice sa y.args.length sc, .bool y.log] 45) := ⟨_, rfl⟩
   have H1 : Hid (W1.heap[wr.heap.size]? = some (.cells #[.int .i64 y.op, .int .i64 y.d, .int .i64 y.a, .int .i64 y.b, .int .i64 y.fn, .int .i64 y.obj, .int .i64 y.off, .int .i64 y.size, .int .u32 y.num, .slice sa y.args.length sc, .bool y.log] 45)) := by rw [hW1]; exact heap_alloc_new wr _
   have B1 : Hid (Below W0.heap.size W0 W1) := by rw [hW1]; exact hB.out.trans ((below_alloc wr _).mono lr)
   rw [← hW1]
   clear hW1 t0 t1 t2 t3 t4 t5 t6 t7 t8 t9 t10
   clear d0 d1 d2 d3 d4 d5 d6 d7 d8 d9 d10
   have l1 := (Array.getElem?_eq_some_iff.1 H1.out).1
   have lw : wr.heap.size < W1.heap.size := l1
   refine (HH.out y _ W1).mono ?_
   rintro e w3 ⟨rfl, hb3⟩
   have H3 : Hid (w3.heap[wr.heap.size]? = some (.cells #[.int .i64 y.op, .int .i64 y.d, .int .i64 y.a, .int .i64 y.b, .int .i64 y.fn, .int .i64 y.obj, .int .i64 y.off, .int .i64 y.size, .int .u32 y.num, .slice sa y.args.length sc, .bool y.log] 45)) := (hb3.block _ l1).trans H1.out
   have B3 : Hid (Below W0.heap.size W0 w3) := B1.out.trans (hb3.mono B1.out.size)
   clear hb3 H1 B1 l1 lw
   cases hh : hidesF s y
   ·obtain ⟨t0, t1, t2, t3, t4, t5, t6, t7, t8, t9, t10, -⟩ := cl11 ((B3.out.block _ l0).trans H0.out)
    obtain ⟨d0, d1, d2, d3, d4, d5, d6, d7, d8, d9, d10, -⟩ := cl11 H3.out
    rw [hh] at HD
    go_wp2_with fail
    refine (HS.out y _ w3).mono ?_
    rintro e w4 ⟨rfl, hb4⟩
    have B4 : Hid (Below W0.heap.size W0 w4) := B3.out.trans (hb4.mono B3.out.size)
    clear hb4 t0 t1 t2 t3 t4 t5 t6 t7 t8 t9 t10 H3 B3
    clear d0 d1 d2 d3 d4 d5 d6 d7 d8 d9 d10
    cases hs : stopsF s y
    ·rw [hs] at HD
     have HD2 : Hid (hiddenF s (L.drop (k + 1)) = hiddenF s L) := HD.out.symm.trans hK.out
     clear hh hs
     go_wp2_with fail
     go_roundw
     case rel => exact ⟨k + 1, by omega, by go_num, B4, HD2⟩
     case measure => simp [intOf]; omega
    ·rw [hs] at HD
     have HD2 : Hid (hiddenF s L = false) := hK.out.symm.trans HD.out
     clear hh hs
     go_wp2_with fail
     go_ret
     exact ⟨ret_b HD2.out.symm, B0.out.trans (B4.out.mono B0.out.size)⟩
   ·rw [hh] at HD
    have HD2 : Hid (hiddenF s L = true) := hK.out.symm.trans HD.out
    clear hh
    go_wp2_with fail
    go_ret
    exact ⟨ret_b HD2.out.symm, B0.out.trans (B3.out.mono B0.out.size)⟩
  ·obtain rfl : k = L.length := by omega
   have hR : Hid (hiddenF s L = false) := by rw [← hK.out]; exact hiddenF_end s L
   go_wp2_with fail
   go_ret
   exact ⟨ret_b hR.out.symm, B0.out.trans (hB.out.mono B0.out.size)⟩
end Go.Proofs.YtnnhobbabcfogaaDoor

set_option linter.all false
namespace Go.Proofs.YtnnhobbabcfogaaDoor
open Go.ChangeShapes Go.WideShapes Go.ChangeAt Go.RowKit
set_option maxHeartbeats 4000000
set_option maxRecDepth 100000
set_option linter.unusedVariables false

theorem ridle_c (p : Pr) (V : Value) (n k : Nat) (w : World) (hP : PrV w V p) (hlen : p.blks.length ≤ 1000) (hin : ∀ j, j < p.blks.length → (p.blks.getD j default).ins.length ≤ 1000)
  (harg : ∀ i, i < p.blks.length → ∀ j, j < (p.blks.getD i default).ins.length → ((p.blks.getD i default).ins.getD j default).args.length ≤ 1000) (hn : n < p.blks.length) (hk : k < (p.blks.getD n default).ins.length) :
  Calls Tryd.prog 59 #[V, .int .i64 (n : Int), .int .i64 (k : Int)] w fun e w' => e = .returned (.bool (idleI p n k)) ∧ Below w.heap.size w w' := by
 have hk1 := hin n hn
 have EL : Hid (∀ w', Ext w w' → Calls Tryd.prog 77 #[V, .int .i64 (n : Int), .int .i64 ((k : Int) + 1), .int .i64 ((p.blks.getD n default).ins.getD k default).d] w' fun e w'' => e = .returned (.bool (liveP p n (k + 1) ((p.blks.getD n default).ins.getD k default).d)) ∧ Below w'.heap.size w' w'') := fun w' he => by
  have := rlive_c p V n (k + 1) ((p.blks.getD n default).ins.getD k default).d w' (hP.ext he) hlen hin harg hn hk
  simpa using this
 have hR : Hid (idleI p n k = (pureI ((p.blks.getD n default).ins.getD k default) && !liveP p n (k + 1) ((p.blks.getD n default).ins.getD k default).d)) := rfl
 clear hin harg
 obtain ⟨nm, vo, vb, rfl, -, hvb⟩ := hP
 have hvb' := hvb
 obtain ⟨a, c, rfl, hc1, hc2, -⟩ := hvb'
 unfold maxLen at hc2
 obtain ⟨bb, ob, vi, rfl, hvi, c0, -⟩ := (RdBks.at hvb).2 n hn
 have hvi' := hvi
 obtain ⟨ai, ci, rfl, hi1, hi2, -⟩ := hvi'
 unfold maxLen at hi2
 have hbb := World.block_lt_of_cell? w _ c0
 obtain ⟨bi, oi, vx, rfl, hbw, hva, d0, d1, d2, d3, d4, d5, d6, d7, d8, d9, d10⟩ := (RdIns.at hvi).2 k hk
 obtain ⟨sa, sc, rfl, -⟩ := hva
 clear hvb hvi
 have hgk0 : (p.blks.getD n default).ins.getD k default = (p.blks.getD n default).ins.getD k default := rfl
 generalize (p.blks.getD n default).ins.getD k default = y at *
 generalize (p.blks.getD n default).ins = L at *
 clear hgk0
 have HB : Hid (∀ o o' : Obj, Below w.heap.size w ((w.alloc o).alloc o')) := fun o o' => (below_alloc w o).alloc (by simp) o'
 go_enter Tryd.func59, Tryd.ntmps59
 go_wp2_with (go_at_call 77; refine (EL.out _ (Ext.below (HB.out _ _))).mono ?_; rintro e w2 ⟨rfl, hb2⟩; have hb2 := Lib.hid ((HB.out _ _).trans (hb2.mono (HB.out _ _).size)))
 all_goals
  go_ret
  simp only [beq_iff_eq, beq_eq_false_iff_ne, ne_eq, bne_iff_ne, bne_eq_false_iff_eq] at *
  first
   | exact ⟨ret_b (by rw [hR.out, show pureI y = true by unfold pureI; simp; omega]; rfl), hb2.out⟩
   | exact ⟨ret_b (by rw [hR.out]; show (_ && _) = (_ && _); congr 1; unfold pureI; rw [Bool.eq_iff_iff]; simp; omega), hb2.out⟩
   | exact ⟨ret_b (by rw [hR.out, show pureI y = false by unfold pureI; simp; omega]; rfl), HB.out _ _⟩
end Go.Proofs.YtnnhobbabcfogaaDoor

set_option linter.all false
namespace Go.Proofs.YtnnhobbabcfogaaDoor
open Go.ChangeShapes Go.WideShapes Go.ChangeAt Go.RowKit
set_option maxHeartbeats 400000
set_option maxRecDepth 10000

/-- what lies in none of the walk's blocks stays, and its rows are those of before or new -/
structure FrR (w w' : World) (bw bs : Nat) (ov bv ov' bv' : Value) : Prop where
 os : w'.os = w.os
 tape : w'.tape = w.tape
 output : w'.output = w.output
 size : w.heap.size ≤ w'.heap.size
 block : ∀ k, k < w.heap.size → k ≠ bw → k ≠ bs → ov.ownBlock ≠ some k → bv.ownBlock ≠ some k → w'.heap[k]? = w.heap[k]?
 no : NewB w ov ov'
 nb : NewB w bv bv'
theorem FrR.refl (w : World) (bw bs : Nat) (ov bv : Value) : FrR w w bw bs ov bv ov bv := ⟨rfl, rfl, rfl, Nat.le_refl _, fun _ _ _ _ _ _ => rfl, .refl _ _, .refl _ _⟩
theorem newB_far {w : World} {v v' : Value} {k : Nat} (h : NewB w v v') (hk : k < w.heap.size) (hv : v.ownBlock ≠ some k) : v'.ownBlock ≠ some k := by
 rcases h with e | ⟨j, hj, e⟩
 ·rw [e]; exact hv
 ·rw [e]; intro e2; simp only [Option.some.injEq] at e2; omega
theorem NewB.trans {w w1 : World} {v v1 v2 : Value} (h : NewB w v v1) (h1 : NewB w1 v1 v2) (hs : w.heap.size ≤ w1.heap.size) : NewB w v v2 := by
 rcases h1 with e | ⟨j, hj, e⟩
 ·rcases h with e0 | ⟨k, hk, e0⟩
  ·exact .inl (e.trans e0)
  ·exact .inr ⟨k, hk, e.trans e0⟩
 ·exact .inr ⟨j, Nat.le_trans hs hj, e⟩
theorem FrR.trans {a b c : World} {bw bs : Nat} {o1 b1 o2 b2 o3 b3 : Value} (h : FrR a b bw bs o1 b1 o2 b2) (h' : FrR b c bw bs o2 b2 o3 b3) : FrR a c bw bs o1 b1 o3 b3 :=
 ⟨h'.os.trans h.os, h'.tape.trans h.tape, h'.output.trans h.output, Nat.le_trans h.size h'.size,
   fun k hk k1 k2 k3 k4 => (h'.block k (Nat.lt_of_lt_of_le hk h.size) k1 k2 (newB_far h.no hk k3) (newB_far h.nb hk k4)).trans (h.block k hk k1 k2 k3 k4),
   h.no.trans h'.no h.size, h.nb.trans h'.nb h.size⟩
section
variable {w : World} {bw bs B n : Nat} {s : S3} {ov bv : Value}
end
end Go.Proofs.YtnnhobbabcfogaaDoor
