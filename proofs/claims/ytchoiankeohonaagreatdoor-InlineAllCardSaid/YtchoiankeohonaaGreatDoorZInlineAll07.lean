/-
 Several moves of a drawn region at once.; The contract of the runner's store.
-/
import Derived.Test.YtchoiankeohonaaGreatDoorZInlineAll01
import Derived.Test.YtchoiankeohonaaGreatDoorZInlineAll03
import Derived.BigQuiet
import Derived.Test.YtchoiankeohonaaGreatDoorZInlineAll06

set_option linter.all false
namespace Go.Proofs.YtchoiankeohonaaGreatDoor
open Go Go.RowKit
set_option linter.unusedVariables false

def opD : Oper := { dst := none, op := .move (.tmp 0), type := 0, pos := "", after := #[], guard := none }
def movesOk (look : Oper → Bool) (ops : Array Oper) : List Nat → Array Bool → Bool
 | [], _ => true
 | i :: is, listed => (closedB ops listed && (Region.noSelect ops && (Region.ready .any ops listed).contains i && Region.free .any ops listed i && ((ops[i]?).map look).getD false)) && movesOk look ops is (listed.setIfInBounds i true)
def listAll (is : List Nat) (listed : Array Bool) : Array Bool := is.foldl (fun l i => l.setIfInBounds i true) listed
def lookJ (o : Oper) : Bool := lookOp o || lookB o
section
variable {P : Program} {ops : Array Oper} {Q : Act → World → Prop} {S : Nat → Prop}
theorem quiet_one {C : World → Prop} {K : Act → Prop} {o : Oper} {l : List Oper} {a : Act} (h : wpQuiet P ops C K (o :: l) a) : wpQuiet P ops C (fun a' => wpQuiet P ops C K l a') [o] a := h
theorem quiet_mono {C : World → Prop} {K K' : Act → Prop} (hk : ∀ a, K a → K' a) {o : Oper} {a : Act} (h : wpQuiet P ops C K [o] a) : wpQuiet P ops C K' [o] a := by
 unfold wpQuiet at h ⊢
 split
 ·rename_i hw
  rw [if_pos hw] at h
  obtain ⟨v, h1, h2⟩ := h
  exact ⟨v, h1, hk _ h2⟩
 ·rename_i hw
  rw [if_neg hw] at h
  exact hk _ h
theorem J_mobs : ∀ (is : List Nat) (n : Nat) (listed : Array Bool) (a : Act) (w : World), (decide (is.length ≤ n) && movesOk lookJ ops is listed) = true →
  wpQuiet P ops (fun w' => ∃ x, w' = kx S w x) (fun a' => wpJs S P ops Q (n - is.length) (listAll is listed) a' w) (is.map fun i => (ops[i]?).getD opD) a → wpJs S P ops Q n listed a w
 | [], n, listed, a, w, _, h => h
 | i :: is, n, listed, a, w, hc, h => by
  simp only [Bool.and_eq_true, decide_eq_true_eq, movesOk] at hc
  obtain ⟨hl, ⟨h1, ⟨⟨h2, h3⟩, h4⟩, h5⟩, h6⟩ := hc
  cases n with
  | zero => exact absurd hl (by simp)
  | succ n =>
   cases ho : ops[i]? with
   | none => rw [ho] at h5; cases h5
   | some o =>
    rw [ho] at h5
    have h5 : lookJ o = true := h5
    refine J_mob i o ho (by simp only [Bool.and_eq_true]; exact ⟨h1, ⟨⟨h2, h3⟩, h4⟩, h5⟩) ?_
    rw [List.map_cons, ho] at h
    refine quiet_mono (fun a' h' => ?_) (quiet_one h)
    refine J_mobs is n _ a' w (by simp only [Bool.and_eq_true, decide_eq_true_eq]; exact ⟨by simpa using hl, h6⟩) ?_
    have e : n + 1 - (i :: is).length = n - is.length := by simp
    rw [e] at h'
    exact h'
theorem E_mob2s : ∀ (is : List Nat) (n : Nat) (listed : Array Bool) (a : Act) (w : World), (decide (is.length ≤ n) && movesOk lookJ ops is listed) = true →
  wpQuiet P ops (fun w' => ∃ x, w' = kp S w x) (fun a' => wpE S P ops Q (n - is.length) (listAll is listed) a' w) (is.map fun i => (ops[i]?).getD opD) a → wpE S P ops Q n listed a w
 | [], n, listed, a, w, _, h => h
 | i :: is, n, listed, a, w, hc, h => by
  simp only [Bool.and_eq_true, decide_eq_true_eq, movesOk] at hc
  obtain ⟨hl, ⟨h1, ⟨⟨h2, h3⟩, h4⟩, h5⟩, h6⟩ := hc
  cases n with
  | zero => exact absurd hl (by simp)
  | succ n =>
   cases ho : ops[i]? with
   | none => rw [ho] at h5; cases h5
   | some o =>
    rw [ho] at h5
    have h5 : lookJ o = true := h5
    refine E_mob2 i o ho (by simp only [Bool.and_eq_true]; exact ⟨h1, ⟨⟨h2, h3⟩, h4⟩, h5⟩) ?_
    rw [List.map_cons, ho] at h
    refine quiet_mono (fun a' h' => ?_) (quiet_one h)
    refine E_mob2s is n _ a' w (by simp only [Bool.and_eq_true, decide_eq_true_eq]; exact ⟨by simpa using hl, h6⟩) ?_
    have e : n + 1 - (i :: is).length = n - is.length := by simp
    rw [e] at h'
    exact h'
end
/-! cells of small blocks -/
theorem cl4 {w : World} {b : Nat} {t : TypeId} {c0 c1 c2 c3 : Value} (h : w.heap[b]? = some (.cells #[c0, c1, c2, c3] t (0, 0))) :
  w.cell? ⟨b, 0, none⟩ = some c0 ∧ w.cell? ⟨b, 1, none⟩ = some c1 ∧ w.cell? ⟨b, 2, none⟩ = some c2 ∧ w.cell? ⟨b, 3, none⟩ = some c3 ∧ b < w.heap.size :=
 ⟨cell_of_heap h 0, cell_of_heap h 1, cell_of_heap h 2, cell_of_heap h 3, (Array.getElem?_eq_some_iff.1 h).1⟩
theorem cl5 {w : World} {b : Nat} {t : TypeId} {c0 c1 c2 c3 c4 : Value} (h : w.heap[b]? = some (.cells #[c0, c1, c2, c3, c4] t (0, 0))) :
  w.cell? ⟨b, 0, none⟩ = some c0 ∧ w.cell? ⟨b, 1, none⟩ = some c1 ∧ w.cell? ⟨b, 2, none⟩ = some c2 ∧ w.cell? ⟨b, 3, none⟩ = some c3 ∧ w.cell? ⟨b, 4, none⟩ = some c4 ∧ b < w.heap.size :=
 ⟨cell_of_heap h 0, cell_of_heap h 1, cell_of_heap h 2, cell_of_heap h 3, cell_of_heap h 4, (Array.getElem?_eq_some_iff.1 h).1⟩
theorem cl6 {w : World} {b : Nat} {t : TypeId} {c0 c1 c2 c3 c4 c5 : Value} (h : w.heap[b]? = some (.cells #[c0, c1, c2, c3, c4, c5] t (0, 0))) :
  w.cell? ⟨b, 0, none⟩ = some c0 ∧ w.cell? ⟨b, 1, none⟩ = some c1 ∧ w.cell? ⟨b, 2, none⟩ = some c2 ∧ w.cell? ⟨b, 3, none⟩ = some c3 ∧ w.cell? ⟨b, 4, none⟩ = some c4 ∧ w.cell? ⟨b, 5, none⟩ = some c5 ∧ b < w.heap.size :=
 ⟨cell_of_heap h 0, cell_of_heap h 1, cell_of_heap h 2, cell_of_heap h 3, cell_of_heap h 4, cell_of_heap h 5, (Array.getElem?_eq_some_iff.1 h).1⟩
theorem cl11 {w : World} {b : Nat} {t : TypeId} {c0 c1 c2 c3 c4 c5 c6 c7 c8 c9 c10 : Value} (h : w.heap[b]? = some (.cells #[c0, c1, c2, c3, c4, c5, c6, c7, c8, c9, c10] t (0, 0))) :
  w.cell? ⟨b, 0, none⟩ = some c0 ∧ w.cell? ⟨b, 1, none⟩ = some c1 ∧ w.cell? ⟨b, 2, none⟩ = some c2 ∧ w.cell? ⟨b, 3, none⟩ = some c3 ∧ w.cell? ⟨b, 4, none⟩ = some c4 ∧ w.cell? ⟨b, 5, none⟩ = some c5 ∧ w.cell? ⟨b, 6, none⟩ = some c6 ∧ w.cell? ⟨b, 7, none⟩ = some c7 ∧ w.cell? ⟨b, 8, none⟩ = some c8 ∧ w.cell? ⟨b, 9, none⟩ = some c9 ∧ w.cell? ⟨b, 10, none⟩ = some c10 ∧ b < w.heap.size :=
 ⟨cell_of_heap h 0, cell_of_heap h 1, cell_of_heap h 2, cell_of_heap h 3, cell_of_heap h 4, cell_of_heap h 5, cell_of_heap h 6, cell_of_heap h 7, cell_of_heap h 8, cell_of_heap h 9, cell_of_heap h 10, (Array.getElem?_eq_some_iff.1 h).1⟩
end Go.Proofs.YtchoiankeohonaaGreatDoor

set_option linter.all false
namespace Go.Proofs.YtchoiankeohonaaGreatDoor
open Go.ChangeShapes Go.WideShapes Go.ChangeAt Go.RowKit
set_option maxHeartbeats 2000000
set_option linter.unusedVariables false
set_option maxRecDepth 20000

section
variable {k : RK} {w : World} {vo : Value} {s : RS}
theorem store_1 (mem : List Int) (n : Nat) (v : Int) : storeP mem n v (0 + 1) = (storeP mem n v 0).set n (v % 256) := by simp [storeP]
theorem store_4 (mem : List Int) (n : Nat) (v : Int) (h1 : 0 ≤ v) (h2 : v < 4294967296) : storeP mem n v (3 + 1) = (storeP mem n v 3).set (n + 3) (v / 16777216) := by
 show (storeP mem n v 3).set (n + 3) (v / 256 ^ 3 % 256) = _
 rw [show v / 256 ^ 3 % 256 = v / 16777216 by omega]
theorem store_yes (a size v : Int) (h : Rn k w vo s) (ha1 : 0 ≤ a) (ha2 : a < 4294967296) (hv1 : 0 ≤ v) (hv2 : v < 4294967296) (hs : size = 1 ∨ size = 4) (hp : placeF a size = true) :
  Calls Tryz.prog 61 #[.pointer (some ⟨k.br, 0, none⟩), .int .u32 a, .int .i64 size, .int .u32 v] w fun e w' => e = .returned (.bool true) ∧ Rn k w' vo { s with mem := storeP s.mem (a - 268435456).toNat v size.toNat } ∧ Kp k vo vo w w' := by
 have HP := Lib.hid (place_yes a size h ha1 ha2 hs hp)
 have hp' := hp
 unfold placeF at hp'
 simp only [Bool.and_eq_true, decide_eq_true_eq] at hp'
 obtain ⟨h1, h2, h3⟩ := hp'
 obtain ⟨N, hN⟩ : ∃ N : Nat, a - 268435456 = (N : Int) := ⟨(a - 268435456).toNat, by omega⟩
 rw [hN] at HP h2 ⊢
 have H := Lib.hid h
 clear h hp h1 h3 hN ha1 ha2
 rcases hs with rfl | rfl
 ·go_enter Tryz.func61, Tryz.ntmps61
  go_wp2_with (go_at_call 88; refine HP.out.mono ?_; rintro e w1 ⟨rfl, rfl⟩)
  go_loopw [22] (fun i wr => ∃ j : Nat, j ≤ 1 ∧ i = .int .i64 (j : Int) ∧ Hid (Rn k wr vo { s with mem := storeP s.mem N v j }) ∧ Hid (Kp k vo vo w wr)) (fun i _ => 1 - (intOf i).toNat)
  case atStart => exact ⟨0, Nat.zero_le _, rfl, H.out, Kp.refl _ _ _⟩
  case round =>
   obtain ⟨j, hj, rfl, M, KK⟩ := hrel
   by_cases hlj : j < 1
   ·have hN2 : N ≤ 65535 := by omega
    match j, hlj with
    | 0, _ =>
     have hc := M.out.cM (N) (by omega)
     have fz := M.out.mm.frozenAt (N)
     have cM := M.out.cMem
     have lb := M.out.brLt.2
     have lm := M.out.bmLt.2
     have BD := Lib.hid (Below.drew (Below.refl wr.heap.size wr))
     have MD := Lib.hid (M.out.grow BD.out)
     have KD := Lib.hid (KK.out.trans (Kp.of_below BD.out))
     have hc : wr.drew.cell? ⟨k.bm, N, none⟩ = _ := hc
     have fz : wr.drew.frozen? ⟨k.bm, N, none⟩ = false := fz
     have cM : wr.drew.cell? ⟨k.br, 4, none⟩ = _ := cM
     have lb : k.br < wr.drew.heap.size := lb
     have lm : k.bm < wr.drew.heap.size := lm
     have HW : IntKind.i64.wrap (N : Int) = (N : Int) := IntWalk.i64_in _ (by omega)
     clear M KK BD
     go_wp2_with fail
     refine wp_region_game (fun x => x = k.br) (by kernel_rfl) ?_
     show wpE _ _ _ _ _ _ _ wr.drew
     generalize wr.drew = W1 at hc fz cM lb lm MD KD ⊢
     obtain ⟨HS1, HS2⟩ := MD.out.setM (N) (v / 256 ^ 0 % 256)
     have HS1 := Lib.hid HS1
     have HS2 := Lib.hid (KD.out.trans HS2)
     clear MD KD
     refine E_mob2s [0, 1, 2, 3, 4, 5, 6, 7, 8, 9, 10, 11, 12] _ _ _ _ (by kernel_rfl) ?_
     simp only [List.map_cons, List.map_nil, List.getElem?_toArray, List.getElem?_cons_succ, List.getElem?_cons_zero, Option.getD_some, List.size_toArray, List.length_cons, List.length_nil, Nat.reduceAdd, Nat.reduceSub]
     repeat (go_big_quiet_step (fail))
     refine wpQuiet_nil ?_
     refine E_last 13 _ rfl (by kernel_rfl) ?_
     simp only [List.getElem_toArray, List.getElem_cons_succ, List.getElem_cons_zero]
     go_wp2_with fail
     refine E_done (by kernel_rfl) ?_ _
     go_wp2_with fail
     go_roundw
     case rel => exact ⟨0 + 1, by decide, rfl, by have := HS1.out; simp only [Int.pow_zero, Int.ediv_one] at this; rw [store_1]; exact this, by have := HS2.out; simp only [Int.pow_zero, Int.ediv_one] at this; exact this⟩
     case measure => decide
   ·obtain rfl : j = 1 := by omega
    go_wp2_with fail
    go_ret
    exact ⟨rfl, M.out, KK.out⟩
 ·go_enter Tryz.func61, Tryz.ntmps61
  go_wp2_with (go_at_call 88; refine HP.out.mono ?_; rintro e w1 ⟨rfl, rfl⟩)
  go_loopw [22] (fun i wr => ∃ j : Nat, j ≤ 4 ∧ i = .int .i64 (j : Int) ∧ Hid (Rn k wr vo { s with mem := storeP s.mem N v j }) ∧ Hid (Kp k vo vo w wr)) (fun i _ => 4 - (intOf i).toNat)
  case atStart => exact ⟨0, Nat.zero_le _, rfl, H.out, Kp.refl _ _ _⟩
  case round =>
   obtain ⟨j, hj, rfl, M, KK⟩ := hrel
   by_cases hlj : j < 4
   ·have hN2 : N ≤ 65532 := by omega
    match j, hlj with
    | 0, _ =>
     have hc := M.out.cM (N) (by omega)
     have fz := M.out.mm.frozenAt (N)
     have cM := M.out.cMem
     have lb := M.out.brLt.2
     have lm := M.out.bmLt.2
     have BD := Lib.hid (Below.drew (Below.refl wr.heap.size wr))
     have MD := Lib.hid (M.out.grow BD.out)
     have KD := Lib.hid (KK.out.trans (Kp.of_below BD.out))
     have hc : wr.drew.cell? ⟨k.bm, N, none⟩ = _ := hc
     have fz : wr.drew.frozen? ⟨k.bm, N, none⟩ = false := fz
     have cM : wr.drew.cell? ⟨k.br, 4, none⟩ = _ := cM
     have lb : k.br < wr.drew.heap.size := lb
     have lm : k.bm < wr.drew.heap.size := lm
     have HW : IntKind.i64.wrap (N : Int) = (N : Int) := IntWalk.i64_in _ (by omega)
     clear M KK BD
     go_wp2_with fail
     refine wp_region_game (fun x => x = k.br) (by kernel_rfl) ?_
     show wpE _ _ _ _ _ _ _ wr.drew
     generalize wr.drew = W1 at hc fz cM lb lm MD KD ⊢
     obtain ⟨HS1, HS2⟩ := MD.out.setM (N) (v / 256 ^ 0 % 256)
     have HS1 := Lib.hid HS1
     have HS2 := Lib.hid (KD.out.trans HS2)
     clear MD KD
     refine E_mob2s [0, 1, 2, 3, 4, 5, 6, 7, 8, 9, 10, 11, 12] _ _ _ _ (by kernel_rfl) ?_
     simp only [List.map_cons, List.map_nil, List.getElem?_toArray, List.getElem?_cons_succ, List.getElem?_cons_zero, Option.getD_some, List.size_toArray, List.length_cons, List.length_nil, Nat.reduceAdd, Nat.reduceSub]
     repeat (go_big_quiet_step (fail))
     refine wpQuiet_nil ?_
     refine E_last 13 _ rfl (by kernel_rfl) ?_
     simp only [List.getElem_toArray, List.getElem_cons_succ, List.getElem_cons_zero]
     go_wp2_with fail
     refine E_done (by kernel_rfl) ?_ _
     go_wp2_with fail
     go_roundw
     case rel => exact ⟨0 + 1, by decide, rfl, by have := HS1.out; simp only [Int.pow_zero, Int.ediv_one] at this; rw [store_1]; exact this, by have := HS2.out; simp only [Int.pow_zero, Int.ediv_one] at this; exact this⟩
     case measure => decide
    | 1, _ =>
     have hc := M.out.cM (N + 1) (by omega)
     have fz := M.out.mm.frozenAt (N + 1)
     have cM := M.out.cMem
     have lb := M.out.brLt.2
     have lm := M.out.bmLt.2
     have BD := Lib.hid (Below.drew (Below.refl wr.heap.size wr))
     have MD := Lib.hid (M.out.grow BD.out)
     have KD := Lib.hid (KK.out.trans (Kp.of_below BD.out))
     have hc : wr.drew.cell? ⟨k.bm, N + 1, none⟩ = _ := hc
     have fz : wr.drew.frozen? ⟨k.bm, N + 1, none⟩ = false := fz
     have cM : wr.drew.cell? ⟨k.br, 4, none⟩ = _ := cM
     have lb : k.br < wr.drew.heap.size := lb
     have lm : k.bm < wr.drew.heap.size := lm
     have HW : IntKind.i64.wrap ((N : Int) + 1) = (N : Int) + 1 := IntWalk.i64_in _ (by omega)
     clear M KK BD
     go_wp2_with fail
     refine wp_region_game (fun x => x = k.br) (by kernel_rfl) ?_
     show wpE _ _ _ _ _ _ _ wr.drew
     generalize wr.drew = W1 at hc fz cM lb lm MD KD ⊢
     obtain ⟨HS1, HS2⟩ := MD.out.setM (N + 1) (v / 256 ^ 1 % 256)
     have HS1 := Lib.hid HS1
     have HS2 := Lib.hid (KD.out.trans HS2)
     clear MD KD
     refine E_mob2s [0, 1, 2, 3, 4, 5, 6, 7, 8, 9, 10, 11, 12] _ _ _ _ (by kernel_rfl) ?_
     simp only [List.map_cons, List.map_nil, List.getElem?_toArray, List.getElem?_cons_succ, List.getElem?_cons_zero, Option.getD_some, List.size_toArray, List.length_cons, List.length_nil, Nat.reduceAdd, Nat.reduceSub]
     repeat (go_big_quiet_step (fail))
     refine wpQuiet_nil ?_
     refine E_last 13 _ rfl (by kernel_rfl) ?_
     simp only [List.getElem_toArray, List.getElem_cons_succ, List.getElem_cons_zero]
     go_wp2_with fail
     refine E_done (by kernel_rfl) ?_ _
     go_wp2_with fail
     go_roundw
     case rel => exact ⟨1 + 1, by decide, rfl, by have := HS1.out; exact this, by have := HS2.out; exact this⟩
     case measure => decide
    | 2, _ =>
     have hc := M.out.cM (N + 2) (by omega)
     have fz := M.out.mm.frozenAt (N + 2)
     have cM := M.out.cMem
     have lb := M.out.brLt.2
     have lm := M.out.bmLt.2
     have BD := Lib.hid (Below.drew (Below.refl wr.heap.size wr))
     have MD := Lib.hid (M.out.grow BD.out)
     have KD := Lib.hid (KK.out.trans (Kp.of_below BD.out))
     have hc : wr.drew.cell? ⟨k.bm, N + 2, none⟩ = _ := hc
     have fz : wr.drew.frozen? ⟨k.bm, N + 2, none⟩ = false := fz
     have cM : wr.drew.cell? ⟨k.br, 4, none⟩ = _ := cM
     have lb : k.br < wr.drew.heap.size := lb
     have lm : k.bm < wr.drew.heap.size := lm
     have HW : IntKind.i64.wrap ((N : Int) + 2) = (N : Int) + 2 := IntWalk.i64_in _ (by omega)
     clear M KK BD
     go_wp2_with fail
     refine wp_region_game (fun x => x = k.br) (by kernel_rfl) ?_
     show wpE _ _ _ _ _ _ _ wr.drew
     generalize wr.drew = W1 at hc fz cM lb lm MD KD ⊢
     obtain ⟨HS1, HS2⟩ := MD.out.setM (N + 2) (v / 256 ^ 2 % 256)
     have HS1 := Lib.hid HS1
     have HS2 := Lib.hid (KD.out.trans HS2)
     clear MD KD
     refine E_mob2s [0, 1, 2, 3, 4, 5, 6, 7, 8, 9, 10, 11, 12] _ _ _ _ (by kernel_rfl) ?_
     simp only [List.map_cons, List.map_nil, List.getElem?_toArray, List.getElem?_cons_succ, List.getElem?_cons_zero, Option.getD_some, List.size_toArray, List.length_cons, List.length_nil, Nat.reduceAdd, Nat.reduceSub]
     repeat (go_big_quiet_step (fail))
     refine wpQuiet_nil ?_
     refine E_last 13 _ rfl (by kernel_rfl) ?_
     simp only [List.getElem_toArray, List.getElem_cons_succ, List.getElem_cons_zero]
     go_wp2_with fail
     refine E_done (by kernel_rfl) ?_ _
     go_wp2_with fail
     go_roundw
     case rel => exact ⟨2 + 1, by decide, rfl, by have := HS1.out; exact this, by have := HS2.out; exact this⟩
     case measure => decide
    | 3, _ =>
     have hc := M.out.cM (N + 3) (by omega)
     have fz := M.out.mm.frozenAt (N + 3)
     have cM := M.out.cMem
     have lb := M.out.brLt.2
     have lm := M.out.bmLt.2
     have BD := Lib.hid (Below.drew (Below.refl wr.heap.size wr))
     have MD := Lib.hid (M.out.grow BD.out)
     have KD := Lib.hid (KK.out.trans (Kp.of_below BD.out))
     have hc : wr.drew.cell? ⟨k.bm, N + 3, none⟩ = _ := hc
     have fz : wr.drew.frozen? ⟨k.bm, N + 3, none⟩ = false := fz
     have cM : wr.drew.cell? ⟨k.br, 4, none⟩ = _ := cM
     have lb : k.br < wr.drew.heap.size := lb
     have lm : k.bm < wr.drew.heap.size := lm
     have HW : IntKind.i64.wrap ((N : Int) + 3) = (N : Int) + 3 := IntWalk.i64_in _ (by omega)
     clear M KK BD
     go_wp2_with fail
     refine wp_region_game (fun x => x = k.br) (by kernel_rfl) ?_
     show wpE _ _ _ _ _ _ _ wr.drew
     generalize wr.drew = W1 at hc fz cM lb lm MD KD ⊢
     obtain ⟨HS1, HS2⟩ := MD.out.setM (N + 3) (v / 256 ^ 3 % 256)
     have e3 : v / 256 ^ 3 % 256 = v / 16777216 := by omega
     rw [e3] at HS1 HS2
     have HS1 := Lib.hid HS1
     have HS2 := Lib.hid (KD.out.trans HS2)
     clear MD KD
     refine E_mob2s [0, 1, 2, 3, 4, 5, 6, 7, 8, 9, 10, 11, 12] _ _ _ _ (by kernel_rfl) ?_
     simp only [List.map_cons, List.map_nil, List.getElem?_toArray, List.getElem?_cons_succ, List.getElem?_cons_zero, Option.getD_some, List.size_toArray, List.length_cons, List.length_nil, Nat.reduceAdd, Nat.reduceSub]
     repeat (go_big_quiet_step (fail))
     refine wpQuiet_nil ?_
     refine E_last 13 _ rfl (by kernel_rfl) ?_
     simp only [List.getElem_toArray, List.getElem_cons_succ, List.getElem_cons_zero]
     go_wp2_with fail
     refine E_done (by kernel_rfl) ?_ _
     go_wp2_with fail
     go_roundw
     case rel => exact ⟨3 + 1, by decide, rfl, by have := HS1.out; rw [store_4 _ _ _ hv1 hv2]; exact this, by have := HS2.out; exact this⟩
     case measure => decide
   ·obtain rfl : j = 4 := by omega
    go_wp2_with fail
    go_ret
    exact ⟨rfl, M.out, KK.out⟩
end
end Go.Proofs.YtchoiankeohonaaGreatDoor
