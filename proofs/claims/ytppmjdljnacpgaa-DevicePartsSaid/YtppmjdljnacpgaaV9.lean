/-
  The device's fetch: the instruction at pc, noted once it was looked at.
-/
import Derived.Test.YtppmjdljnacpgaaV8
import Derived.Test.YtppmjdljnacpgaaI8
import Derived.Test.YtppmjdljnacpgaaJ
import Derived.Test.YtppmjdljnacpgaaN2
set_option linter.all false
namespace Go.Proofs.Ytppmjdljnacpgaa
open Go.ChangeShapes Go.WideShapes Go.ChangeAt Go.RowKit
set_option maxHeartbeats 2000000
set_option linter.unusedVariables false
set_option maxRecDepth 20000

def ivV (i : Iv) : Value := .agg #[.int .i64 i.op, .int .i64 i.rd, .int .i64 i.rs1, .int .i64 i.rs2, .int .i64 i.imm]
def decV : Option Iv → Value
  | none => .tuple #[ivV ⟨0, 0, 0, 0, 0⟩, .int .i64 3]
  | some i => .tuple #[ivV i, .int .i64 0]
theorem fitN_none {w : Int} : ∀ n : Nat, (∀ k : Nat, 1 ≤ k → k < n → ¬ fitsP k w) → fitN w n = none
  | 0, _ => rfl
  | n + 1, h => by
    unfold fitN
    rw [if_neg (fun e => h n e.1 (by omega) e.2)]
    exact fitN_none n fun k h1 h2 => h k h1 (by omega)
theorem fitN_some {w : Int} (hw : 0 ≤ w) (hw' : w < 4294967296) {k : Nat} (h1 : 1 ≤ k) (hk : fitsP k w) : ∀ n : Nat, k < n → n ≤ 46 → fitN w n = some k
  | 0, h, _ => absurd h (Nat.not_lt_zero k)
  | n + 1, h, h46 => by
    unfold fitN
    by_cases e : n = k
    · subst e; rw [if_pos ⟨h1, hk⟩]
    · rw [if_neg (fun e' => e (fits_once n k e'.1 (by omega) h1 (by omega) w e'.2 hk))]
      exact fitN_some hw hw' h1 hk n (by omega) (by omega)
theorem decPost_val {a : Int} {e : Ending} (h1 : 0 ≤ a) (h2 : a < 4294967296) (h : DecPost a e) : e = .returned (decV (decD a)) := by
  rcases h with ⟨k, hk1, hk2, hf, rfl⟩ | ⟨hn, rfl⟩
  · unfold decD
    rw [fitN_some h1 h2 hk1 hf 46 hk2 (Nat.le_refl _)]
    rfl
  · unfold decD
    rw [fitN_none 46 hn]
    rfl
def fetchD (k : VK) (m : Dv) : Option Iv := if m.pc % 4 = 0 ∧ m.pc / 4 < (k.code.length : Int) then decD (k.code.getD (m.pc / 4).toNat 0) else none
def fetV : Option Iv → Value
  | none => .tuple #[ivV ⟨0, 0, 0, 0, 0⟩, .bool false]
  | some i => .tuple #[ivV i, .bool true]
theorem vbelow5 {w w1 : World} (h : Below w.heap.size w w1) (a b c d e : Value) : Below w.heap.size w (((((w1.setCell ⟨w.heap.size, 0, none⟩ a).setCell ⟨w.heap.size, 1, none⟩ b).setCell ⟨w.heap.size, 2, none⟩ c).setCell ⟨w.heap.size, 3, none⟩ d).setCell ⟨w.heap.size, 4, none⟩ e) :=
  Below.setCell (Below.setCell (Below.setCell (Below.setCell (Below.setCell h (by simp) _) (by simp) _) (by simp) _) (by simp) _) (by simp) _
section
variable {k : VK} {w : World} {vl : Value} {m : Dv} {ts : List Mt}
theorem Vm.cC (h : Vm k w vl m ts) (hl : 1 ≤ k.code.length) : ∃ g c, k.vc = .slice (some ⟨g, 0, none⟩) k.code.length c ∧ g < w.heap.size ∧ k.code.length ≤ c ∧ (∀ j, j < k.code.length → w.cell? ⟨g, j, none⟩ = some (.int .u32 (k.code.getD j 0))) := by
  have H := h.cc
  obtain ⟨-, ⟨-, h0⟩ | ⟨g, cap, cur, e, hb, hgg, hn, hc, -⟩⟩ := h.cc
  · omega
  · rw [e] at H
    refine ⟨g, cap, e, (own_lt H rfl).2, hn, fun j hj => ?_⟩
    rw [H.cellAt j (by simpa using hj)]
    simp [List.getD, hj]
theorem Vm.cT (h : Vm k w vl m ts) (i r : Nat) (hi : i < k.code.length) (hr : r < 7) : w.cell? ⟨k.bt, i * 7 + r, none⟩ = (ts.getD i default).cells[r]? := by
  have hlt : i * 7 + r < k.code.length * 7 := by omega
  rw [h.mt.cellAt _ hlt]
  exact flat_at Mt.cells 7 Mt.cells_len ts i r (by rw [h.tl]; exact hi) hr
theorem vfetch_no (h : Vm k w vl m ts) (hk : k.ok) (hm : Dok m) (hr : ¬(m.pc % 4 = 0 ∧ m.pc / 4 < (k.code.length : Int))) :
    Calls Try.prog 54 #[.pointer (some ⟨k.bm, 0, none⟩)] w fun e w' => e = .returned (fetV none) ∧ Below w.heap.size w w' := by
  obtain ⟨gc, cc, eC, -, -, -⟩ := h.cC hk.cl.1
  have hp := hm.pb
  have lb := h.bmLt.2
  have hcl := hk.cl
  by_cases h4 : m.pc % 4 = 0
  · have hge : ¬ m.pc / 4 < (k.code.length : Int) := fun e => hr ⟨h4, e⟩
    obtain ⟨N, hN⟩ : ∃ N : Nat, m.pc / 4 = (N : Int) := ⟨(m.pc / 4).toNat, by omega⟩
    have g1 : (m.pc % 4 != 0) = false := by rw [h4]; rfl
    have g2 : decide ((k.code.length : Int) ≤ (N : Int)) = true := decide_eq_true (by omega)
    have g3 : decide (k.code.length ≤ N) = true := decide_eq_true (by omega)
    clear hr h4 hge hm hk
    have cP := h.c 0 (by decide)
    have cC := h.c 3 (by decide)
    simp only [List.getElem?_cons_succ, List.getElem?_cons_zero] at cP cC
    rw [eC] at cC
    have H := Lib.hid h
    clear h
    go_enter Try.func54, Try.ntmps54
    go_wp2_with fail
    go_quiet (fail)
    obtain ⟨W1, hW1⟩ : ∃ W1, W1 = (w.alloc (.cells #[.int .i64 0, .int .i64 0, .int .i64 0, .int .i64 0, .int .i64 0] 23)).drewN nq := ⟨_, rfl⟩
    rw [← hW1]
    have B1 : Hid (Below w.heap.size w W1) := by rw [hW1]; exact (vbelow1 w _).trans ((below_drewN3 _ nq).mono (by simp))
    have hh : W1.heap[w.heap.size]? = some (.cells #[.int .i64 0, .int .i64 0, .int .i64 0, .int .i64 0, .int .i64 0] 23 (0, 0)) := by rw [hW1]; exact heap_alloc_new w _
    clear hW1 cP cC
    have HH := Lib.hid hh
    have lr : w.heap.size < W1.heap.size := (Array.getElem?_eq_some_iff.1 hh).1
    have M1 := Lib.hid (H.out.grow B1.out)
    clear M1 H g1 g2 g3 hN
    have r0 := cell_of_heap hh 0
    have r1 := cell_of_heap hh 1
    have r2 := cell_of_heap hh 2
    have r3 := cell_of_heap hh 3
    have r4 := cell_of_heap hh 4
    have rf := fun o => frozen_of_heap hh o
    simp only [List.getElem?_toArray, List.getElem?_cons_zero, List.getElem?_cons_succ] at r0 r1 r2 r3 r4
    clear hh
    go_wp2_with fail
    refine bodyPost_ret (v := .tuple #[.agg #[.int .i64 0, .int .i64 0, .int .i64 0, .int .i64 0, .int .i64 0], .bool false]) (by simp [results, Try.results54, go_sem, r0, r1, r2, r3, r4, lr]) rfl ⟨rfl, vbelow5 B1.out _ _ _ _ _⟩
  · have g1 : (m.pc % 4 != 0) = true := bne_iff_ne.2 h4
    clear hr h4 hm hk
    have cP := h.c 0 (by decide)
    have cC := h.c 3 (by decide)
    simp only [List.getElem?_cons_succ, List.getElem?_cons_zero] at cP cC
    rw [eC] at cC
    have H := Lib.hid h
    clear h
    go_enter Try.func54, Try.ntmps54
    go_wp2_with fail
    go_quiet (fail)
    obtain ⟨W1, hW1⟩ : ∃ W1, W1 = (w.alloc (.cells #[.int .i64 0, .int .i64 0, .int .i64 0, .int .i64 0, .int .i64 0] 23)).drewN nq := ⟨_, rfl⟩
    rw [← hW1]
    have B1 : Hid (Below w.heap.size w W1) := by rw [hW1]; exact (vbelow1 w _).trans ((below_drewN3 _ nq).mono (by simp))
    have hh : W1.heap[w.heap.size]? = some (.cells #[.int .i64 0, .int .i64 0, .int .i64 0, .int .i64 0, .int .i64 0] 23 (0, 0)) := by rw [hW1]; exact heap_alloc_new w _
    clear hW1 cP cC
    have HH := Lib.hid hh
    have lr : w.heap.size < W1.heap.size := (Array.getElem?_eq_some_iff.1 hh).1
    have M1 := Lib.hid (H.out.grow B1.out)
    clear M1 H g1
    have r0 := cell_of_heap hh 0
    have r1 := cell_of_heap hh 1
    have r2 := cell_of_heap hh 2
    have r3 := cell_of_heap hh 3
    have r4 := cell_of_heap hh 4
    have rf := fun o => frozen_of_heap hh o
    simp only [List.getElem?_toArray, List.getElem?_cons_zero, List.getElem?_cons_succ] at r0 r1 r2 r3 r4
    clear hh
    go_wp2_with fail
    refine bodyPost_ret (v := .tuple #[.agg #[.int .i64 0, .int .i64 0, .int .i64 0, .int .i64 0, .int .i64 0], .bool false]) (by simp [results, Try.results54, go_sem, r0, r1, r2, r3, r4, lr]) rfl ⟨rfl, vbelow5 B1.out _ _ _ _ _⟩
theorem right_fetV {t : Mt} {x : Int} (h : t.right x) (hs : t.seen = true) : fetV (decD x) = .tuple #[ivV t.i, .bool t.is'] := by
  have := h hs
  cases hd : decD x with
  | none => rw [hd] at this; obtain ⟨e1, e2⟩ := this; rw [e1, e2]; rfl
  | some i => rw [hd] at this; obtain ⟨e1, e2⟩ := this; rw [e1, e2]; rfl
theorem own_ne {w : World} {B s n b : Nat} {e : TypeId} {v : Value} {xs : List Value} (h : w.ownsRow B e s v n xs) (hb : w.heap.size ≤ b) : v.ownBlock = none ∨ v.ownBlock ≠ some b := by
  cases hv : v.ownBlock with
  | none => exact .inl rfl
  | some g => exact .inr fun e => by cases e; have := own_lt h hv; omega
theorem Vm.other {w0 w' : World} {m0 : Dv} {ts0 : List Mt} {b : Nat} (h : Vm k w vl m ts) (h0 : Vm k w0 vl m0 ts0) (hg : w.grownBy w' (some b)) (hb : w0.heap.size ≤ b) : Vm k w' vl m ts :=
  ⟨h.bx.kept hg (own_ne h0.bx hb), h.cc.kept hg (own_ne h0.cc hb), h.mt.kept hg (own_ne h0.mt hb), h.dd.kept hg (own_ne h0.dd hb), h.ii.kept hg (own_ne h0.ii hb), h.ll.kept hg (own_ne h0.ll hb), h.rl, h.tl, h.tr, Nat.le_trans h.low hg.size⟩
theorem grown_set (w : World) (b j : Nat) (x : Value) : w.grownBy (w.setCell ⟨b, j, none⟩ x) (some b) := ⟨rfl, rfl, rfl, by simp, fun c _ hc => heap_setCell_other w ⟨b, j, none⟩ c x (fun e => hc (by rw [e]))⟩
theorem Chv.new {vl' : Value} {w1 : World} {b : Nat} (h : Chv k vl vl' w w1) (hb : w.heap.size ≤ b) (j : Nat) (x : Value) : Chv k vl vl' w (w1.setCell ⟨b, j, none⟩ x) :=
  ⟨h.os, h.tape, h.output, by simpa using h.size, h.to, fun c hc h1 h2 h3 h4 => (heap_setCell_other w1 ⟨b, j, none⟩ c x (by show c ≠ b; omega)).trans (h.keep c hc h1 h2 h3 h4)⟩
theorem keep_set {S : Nat → Prop} (w : World) {g : Nat} (j : Nat) (x : Value) (hne : ∀ b, S b → b ≠ g) : Keep S w (w.setCell ⟨g, j, none⟩ x) := fun b o hs => World.cell?_of_block (a := ⟨b, o, none⟩) (heap_setCell_other w ⟨g, j, none⟩ b x (hne b hs))
theorem keep_set5 {S : Nat → Prop} (w : World) {g : Nat} (a b c d e : Value) (hne : ∀ b, S b → b ≠ g) : Keep S w (((((w.setCell ⟨g, 0, none⟩ a).setCell ⟨g, 1, none⟩ b).setCell ⟨g, 2, none⟩ c).setCell ⟨g, 3, none⟩ d).setCell ⟨g, 4, none⟩ e) :=
  ((((keep_set _ 0 a hne).trans (keep_set _ 1 b hne)).trans (keep_set _ 2 c hne)).trans (keep_set _ 3 d hne)).trans (keep_set _ 4 e hne)
theorem vset5 {w0 w1 : World} {m0 : Dv} {ts0 : List Mt} {g : Nat} (h : Vm k w1 vl m ts) (h0 : Vm k w0 vl m0 ts0) (hc : Chv k vl vl w0 w1) (hb : w0.heap.size ≤ g) (a b c d e : Value) :
    Vm k (((((w1.setCell ⟨g, 0, none⟩ a).setCell ⟨g, 1, none⟩ b).setCell ⟨g, 2, none⟩ c).setCell ⟨g, 3, none⟩ d).setCell ⟨g, 4, none⟩ e) vl m ts ∧ Chv k vl vl w0 (((((w1.setCell ⟨g, 0, none⟩ a).setCell ⟨g, 1, none⟩ b).setCell ⟨g, 2, none⟩ c).setCell ⟨g, 3, none⟩ d).setCell ⟨g, 4, none⟩ e) :=
  ⟨((((h.other h0 (grown_set _ g 0 a) hb).other h0 (grown_set _ g 1 b) hb).other h0 (grown_set _ g 2 c) hb).other h0 (grown_set _ g 3 d) hb).other h0 (grown_set _ g 4 e) hb, ((((hc.new hb 0 a).new hb 1 b).new hb 2 c).new hb 3 d).new hb 4 e⟩
theorem vfetch_seen (h : Vm k w vl m ts) (hk : k.ok) (hm : Dok m) (N : Nat) (hN : m.pc / 4 = (N : Int)) (h4 : m.pc % 4 = 0) (hlt : N < k.code.length) (hs : (ts.getD N default).seen = true) :
    Calls Try.prog 54 #[.pointer (some ⟨k.bm, 0, none⟩)] w fun e w' => e = .returned (fetV (decD (k.code.getD N 0))) ∧ Below w.heap.size w w' := by
  rw [right_fetV (h.tr N hlt) hs]
  generalize ht : ts.getD N default = t at hs ⊢
  have HT := Lib.hid ht
  clear ht
  obtain ⟨seen, is', ⟨op, rd, rs1, rs2, imm⟩⟩ := t
  obtain ⟨gc, cc, eC, -, -, -⟩ := h.cC hk.cl.1
  have hp := hm.pb
  have lb := h.bmLt.2
  have lt := h.btLt.2
  have hcl := hk.cl
  have g1 : (m.pc % 4 != 0) = false := by rw [h4]; rfl
  have g2 : decide ((k.code.length : Int) ≤ (N : Int)) = false := decide_eq_false (by omega)
  have g3 : decide (k.code.length ≤ N) = false := decide_eq_false (by omega)
  clear h4 hm hk
  have cP := h.c 0 (by decide)
  have cC := h.c 3 (by decide)
  simp only [List.getElem?_cons_succ, List.getElem?_cons_zero] at cP cC
  rw [eC] at cC
  have H := Lib.hid h
  clear h
  go_enter Try.func54, Try.ntmps54
  go_wp2_with fail
  go_quiet (fail)
  obtain ⟨W1, hW1⟩ : ∃ W1, W1 = (w.alloc (.cells #[.int .i64 0, .int .i64 0, .int .i64 0, .int .i64 0, .int .i64 0] 23)).drewN nq := ⟨_, rfl⟩
  rw [← hW1]
  have B1 : Hid (Below w.heap.size w W1) := by rw [hW1]; exact (vbelow1 w _).trans ((below_drewN3 _ nq).mono (by simp))
  have hh : W1.heap[w.heap.size]? = some (.cells #[.int .i64 0, .int .i64 0, .int .i64 0, .int .i64 0, .int .i64 0] 23 (0, 0)) := by rw [hW1]; exact heap_alloc_new w _
  clear hW1 cP cC
  have HH := Lib.hid hh
  have lr : w.heap.size < W1.heap.size := (Array.getElem?_eq_some_iff.1 hh).1
  have M1 := Lib.hid (H.out.grow B1.out)
  clear H g1 g2 g3
  have cP := M1.out.c 0 (by decide)
  have cM := M1.out.c 4 (by decide)
  simp only [List.getElem?_cons_succ, List.getElem?_cons_zero] at cP cM
  have lb1 : k.bm < W1.heap.size := M1.out.bmLt.2
  have lt1 : k.bt < W1.heap.size := M1.out.btLt.2
  go_wp2_with fail
  go_quiet (fail)
  have M2 := Lib.hid (M1.out.grow (below_drewN3 W1 nq))
  have B2 : Hid (Below w.heap.size w (W1.drewN nq)) := B1.out.trans ((below_drewN3 W1 nq).mono B1.out.size)
  have hh : (W1.drewN nq).heap[w.heap.size]? = _ := HH.out
  have lr : w.heap.size < (W1.drewN nq).heap.size := lr
  have lt1 : k.bt < (W1.drewN nq).heap.size := lt1
  have lb1 : k.bm < (W1.drewN nq).heap.size := lb1
  clear HH cP cM M1 B1
  generalize W1.drewN nq = W2 at *
  have HH := Lib.hid hh
  clear hh
  have y0 := M2.out.cT N 0 hlt (by decide)
  simp only [Nat.add_zero] at y0
  have y1 := M2.out.cT N 1 hlt (by decide)
  have y2 := M2.out.cT N 2 hlt (by decide)
  have y3 := M2.out.cT N 3 hlt (by decide)
  have y4 := M2.out.cT N 4 hlt (by decide)
  have y5 := M2.out.cT N 5 hlt (by decide)
  have y6 := M2.out.cT N 6 hlt (by decide)
  rw [HT.out] at y0 y1 y2 y3 y4 y5 y6
  simp only [Mt.cells, List.getElem?_cons_succ, List.getElem?_cons_zero] at y0 y1 y2 y3 y4 y5 y6
  rw [hs] at y0
  clear hs hN HT
  have hh := HH.out
  go_wp2_with fail
  clear hh y0
  have BD := Lib.hid (B2.out.trans (Below.drew (Below.refl W2.heap.size W2) |>.mono B2.out.size))
  clear B2 M2
  have HH := HH
  have hh : W2.drew.heap[w.heap.size]? = _ := HH.out
  have r0 := cell_of_heap hh 0
  have r1 := cell_of_heap hh 1
  have r2 := cell_of_heap hh 2
  have r3 := cell_of_heap hh 3
  have r4 := cell_of_heap hh 4
  have rf := fun o => frozen_of_heap hh o
  simp only [List.getElem?_toArray, List.getElem?_cons_zero, List.getElem?_cons_succ] at r0 r1 r2 r3 r4
  clear hh
  have y1 : W2.drew.cell? ⟨k.bt, N * 7 + 1, none⟩ = _ := y1
  have y2 : W2.drew.cell? ⟨k.bt, N * 7 + 2, none⟩ = _ := y2
  have y3 : W2.drew.cell? ⟨k.bt, N * 7 + 3, none⟩ = _ := y3
  have y4 : W2.drew.cell? ⟨k.bt, N * 7 + 4, none⟩ = _ := y4
  have y5 : W2.drew.cell? ⟨k.bt, N * 7 + 5, none⟩ = _ := y5
  have y6 : W2.drew.cell? ⟨k.bt, N * 7 + 6, none⟩ = _ := y6
  have lr : w.heap.size < W2.drew.heap.size := lr
  have lt1 : k.bt < W2.drew.heap.size := lt1
  go_wp2_with fail
  refine wp_region_game (fun x => x = k.bt) (by kernel_rfl) ?_
  show wpE _ _ _ _ _ _ _ W2.drew
  generalize W2.drew = W9 at *
  refine E_mob2s [0, 1, 2, 3, 4, 5, 6, 7] _ _ _ _ (by kernel_rfl) ?_
  simp only [List.map_cons, List.map_nil, List.getElem?_toArray, List.getElem?_cons_succ, List.getElem?_cons_zero, Option.getD_some, List.size_toArray, List.length_cons, List.length_nil, Nat.reduceAdd, Nat.reduceSub]
  repeat (go_big_quiet_step (fail))
  refine wpQuiet_nil ?_
  refine E_loud1 8 _ rfl (by kernel_rfl) ?_
  simp only [List.getElem_toArray, List.getElem_cons_succ, List.getElem_cons_zero]
  go_wp2_with fail
  refine ⟨keep_set5 W9 _ _ _ _ _ (fun b hb => by cases hb; omega), ?_⟩
  refine E_mob2s [9] _ _ _ _ (by kernel_rfl) ?_
  simp only [List.map_cons, List.map_nil, List.getElem?_toArray, List.getElem?_cons_succ, List.getElem?_cons_zero, Option.getD_some, List.size_toArray, List.length_cons, List.length_nil, Nat.reduceAdd, Nat.reduceSub]
  repeat (go_big_quiet_step (fail))
  refine wpQuiet_nil ?_
  refine E_done (by kernel_rfl) ?_ _
  go_wp2_with fail
  refine bodyPost_ret (v := .tuple #[.agg #[.int .i64 op, .int .i64 rd, .int .i64 rs1, .int .i64 rs2, .int .i64 imm], .bool is']) (by simp [results, Try.results54, go_sem, r0, r1, r2, r3, r4, lr]) rfl ⟨rfl, vbelow5 BD.out _ _ _ _ _⟩
theorem Vm.cCat (h : Vm k w vl m ts) {g L c : Nat} (hd : k.vc = .slice (some ⟨g, 0, none⟩) L c) (j : Nat) (hj : j < k.code.length) : w.cell? ⟨g, j, none⟩ = some (.int .u32 (k.code.getD j 0)) ∧ g < w.heap.size := by
  have H := h.cc
  rw [hd] at H
  have hL : L = k.code.length := by
    obtain ⟨-, ⟨e, -⟩ | ⟨g', cap, cur, e, -⟩⟩ := id H
    · cases e
    · simp only [Value.slice.injEq] at e; exact e.2.1
  subst hL
  refine ⟨?_, (own_lt H rfl).2⟩
  rw [H.cellAt j (by simpa using hj)]
  simp [List.getD, hj]
theorem keepX_set5 {S : Nat → Prop} (w : World) {g : Nat} (a b c d e : Value) (hne : ∀ b, S b → b ≠ g) : KeepX S w (((((w.setCell ⟨g, 0, none⟩ a).setCell ⟨g, 1, none⟩ b).setCell ⟨g, 2, none⟩ c).setCell ⟨g, 3, none⟩ d).setCell ⟨g, 4, none⟩ e) :=
  fun x o v hx hv => (keep_set5 w a b c d e hne x o hx).trans hv
theorem below_set5 {B : Nat} {w w1 : World} {g : Nat} (h : Below B w w1) (hg : B ≤ g) (a b c d e : Value) : Below B w (((((w1.setCell ⟨g, 0, none⟩ a).setCell ⟨g, 1, none⟩ b).setCell ⟨g, 2, none⟩ c).setCell ⟨g, 3, none⟩ d).setCell ⟨g, 4, none⟩ e) :=
  Below.setCell (p := ⟨g, 4, none⟩) (Below.setCell (p := ⟨g, 3, none⟩) (Below.setCell (p := ⟨g, 2, none⟩) (Below.setCell (p := ⟨g, 1, none⟩) (Below.setCell (p := ⟨g, 0, none⟩) h hg _) hg _) hg _) hg _) hg _
theorem getD_setM (ts : List Mt) (N : Nat) (t : Mt) (h : N < ts.length) : (ts.set N t).getD N default = t := by simp [List.getD, h]
theorem vfetch_new (h : Vm k w vl m ts) (hk : k.ok) (hm : Dok m) (N : Nat) (hN : m.pc / 4 = (N : Int)) (h4 : m.pc % 4 = 0) (hlt : N < k.code.length) (hs : (ts.getD N default).seen = false) :
    Calls Try.prog 54 #[.pointer (some ⟨k.bm, 0, none⟩)] w fun e w' => ∃ ts', e = .returned (fetV (decD (k.code.getD N 0))) ∧ Vm k w' vl m ts' ∧ Chv k vl vl w w' := by
  generalize ht : ts.getD N default = t at hs
  have HT := Lib.hid ht
  clear ht
  obtain ⟨seen, is', ⟨op, rd, rs1, rs2, imm⟩⟩ := t
  have CD : Hid (∀ w, Calls Try.prog 13 #[.int .u32 (k.code.getD N 0)] w fun e w' => e = .returned (decV (decD (k.code.getD N 0))) ∧ Below w.heap.size w w') := fun w => (decode_c _ w (hk.cb N).1 (hk.cb N).2).mono fun e w' h => ⟨decPost_val (hk.cb N).1 (hk.cb N).2 h.1, h.2⟩
  generalize hx : k.code.getD N 0 = x at CD ⊢
  have HX := Lib.hid hx
  clear hx
  obtain ⟨gc, cc, eC, -, hcap, -⟩ := h.cC hk.cl.1
  have hp := hm.pb
  have lb := h.bmLt.2
  have lt := h.btLt.2
  have hcl := hk.cl
  have H0 := Lib.hid h
  have g1 : (m.pc % 4 != 0) = false := by rw [h4]; rfl
  have g2 : decide ((k.code.length : Int) ≤ (N : Int)) = false := decide_eq_false (by omega)
  have g3 : decide (k.code.length ≤ N) = false := decide_eq_false (by omega)
  clear h4 hm hk
  have cP := h.c 0 (by decide)
  have cC := h.c 3 (by decide)
  simp only [List.getElem?_cons_succ, List.getElem?_cons_zero] at cP cC
  rw [eC] at cC
  have H := Lib.hid h
  clear h
  go_enter Try.func54, Try.ntmps54
  go_wp2_with fail
  go_quiet (fail)
  obtain ⟨W1, hW1⟩ : ∃ W1, W1 = (w.alloc (.cells #[.int .i64 0, .int .i64 0, .int .i64 0, .int .i64 0, .int .i64 0] 23)).drewN nq := ⟨_, rfl⟩
  rw [← hW1]
  have B1 : Hid (Below w.heap.size w W1) := by rw [hW1]; exact (vbelow1 w _).trans ((below_drewN3 _ nq).mono (by simp))
  have hh : W1.heap[w.heap.size]? = some (.cells #[.int .i64 0, .int .i64 0, .int .i64 0, .int .i64 0, .int .i64 0] 23 (0, 0)) := by rw [hW1]; exact heap_alloc_new w _
  clear hW1 cP cC
  have HH := Lib.hid hh
  have lr : w.heap.size < W1.heap.size := (Array.getElem?_eq_some_iff.1 hh).1
  have M1 := Lib.hid (H.out.grow B1.out)
  clear H g1 g2 g3
  have cP := M1.out.c 0 (by decide)
  have cM := M1.out.c 4 (by decide)
  simp only [List.getElem?_cons_succ, List.getElem?_cons_zero] at cP cM
  have lb1 : k.bm < W1.heap.size := M1.out.bmLt.2
  have lt1 : k.bt < W1.heap.size := M1.out.btLt.2
  go_wp2_with fail
  go_quiet (fail)
  have M2 := Lib.hid (M1.out.grow (below_drewN3 W1 nq))
  have B2 : Hid (Below w.heap.size w (W1.drewN nq)) := B1.out.trans ((below_drewN3 W1 nq).mono B1.out.size)
  have hh : (W1.drewN nq).heap[w.heap.size]? = _ := HH.out
  have lr : w.heap.size < (W1.drewN nq).heap.size := lr
  have lt1 : k.bt < (W1.drewN nq).heap.size := lt1
  have lb1 : k.bm < (W1.drewN nq).heap.size := lb1
  clear HH cP cM M1 B1
  generalize W1.drewN nq = W2 at *
  have HH := Lib.hid hh
  clear hh
  have y0 := M2.out.cT N 0 hlt (by decide)
  simp only [Nat.add_zero] at y0
  have y1 := M2.out.cT N 1 hlt (by decide)
  have y2 := M2.out.cT N 2 hlt (by decide)
  have y3 := M2.out.cT N 3 hlt (by decide)
  have y4 := M2.out.cT N 4 hlt (by decide)
  have y5 := M2.out.cT N 5 hlt (by decide)
  have y6 := M2.out.cT N 6 hlt (by decide)
  rw [HT.out] at y0 y1 y2 y3 y4 y5 y6
  simp only [Mt.cells, List.getElem?_cons_succ, List.getElem?_cons_zero] at y0 y1 y2 y3 y4 y5 y6
  rw [hs] at y0
  clear hs
  have cP := M2.out.c 0 (by decide)
  have cC := M2.out.c 3 (by decide)
  simp only [List.getElem?_cons_succ, List.getElem?_cons_zero] at cP cC
  rw [eC] at cC
  obtain ⟨xC, lc⟩ := M2.out.cCat eC N hlt
  rw [HX.out] at xC
  have lr2 := lr
  cases hD : decD (x) with
  | none =>
    rw [hD] at CD
    have CD : Hid (∀ w, Calls Try.prog 13 #[.int .u32 (x)] w fun e w' => e = .returned (.tuple #[.agg #[.int .i64 0, .int .i64 0, .int .i64 0, .int .i64 0, .int .i64 0], .int .i64 3]) ∧ Below w.heap.size w w') := CD
    have HD := Lib.hid hD
    clear hD
    go_wp2_with fail
    refine wp_region_junk (fun x => x = k.bm ∨ x = gc) (by kernel_rfl) ?_
    refine J_mobs [0, 1, 2, 3, 4, 5, 6, 7, 8, 9, 10, 11] _ _ _ _ (by kernel_rfl) ?_
    simp only [List.map_cons, List.map_nil, List.getElem?_toArray, List.getElem?_cons_succ, List.getElem?_cons_zero, Option.getD_some, List.size_toArray, List.length_cons, List.length_nil, Nat.reduceAdd, Nat.reduceSub]
    repeat (go_big_quiet_step (fail))
    refine wpQuiet_nil ?_
    clear hN
    refine J_call 12 _ (.tuple #[.agg #[.int .i64 0, .int .i64 0, .int .i64 0, .int .i64 0, .int .i64 0], .int .i64 3]) rfl (by kernel_rfl) rfl ?_ ?_
    all_goals simp only [List.getElem_toArray, List.getElem_cons_succ, List.getElem_cons_zero]
    · intro wk hk
      go_wp2_with fail
      refine (CD.out _).mono ?_
      rintro e wz ⟨rfl, hb⟩
      go_wp2_with fail
      exact ⟨rfl, hb⟩
    simp only [Act.put, List.setIfInBounds_toArray, List.set_cons_succ, List.set_cons_zero]
    refine J_mobs [13, 14, 15] _ _ _ _ (by kernel_rfl) ?_
    simp only [List.map_cons, List.map_nil, List.getElem?_toArray, List.getElem?_cons_succ, List.getElem?_cons_zero, Option.getD_some, List.size_toArray, List.length_cons, List.length_nil, Nat.reduceAdd, Nat.reduceSub]
    repeat (go_big_quiet_step (fail))
    refine wpQuiet_nil ?_
    refine J_loud1 16 _ rfl (by kernel_rfl) ?_
    simp only [List.getElem_toArray, List.getElem_cons_succ, List.getElem_cons_zero]
    intro wj hj
    have B3 : Hid (Below W2.heap.size W2 wj) := hj
    clear hj
    go_wp2_with fail
    refine ⟨KeepX.below (vbelow1 wj _), ?_⟩
    have B4 : Hid (Below W2.heap.size W2 _) := B3.out.trans ((vbelow1 wj (.cells #[.int .i64 0, .int .i64 0, .int .i64 0, .int .i64 0, .int .i64 0] 23)).mono B3.out.size)
    have h5 := heap_alloc_new wj (.cells #[.int .i64 0, .int .i64 0, .int .i64 0, .int .i64 0, .int .i64 0] 23)
    obtain ⟨g5, hg5⟩ : ∃ g5, g5 = wj.heap.size := ⟨_, rfl⟩
    have l5 : g5 < (wj.alloc (.cells #[.int .i64 0, .int .i64 0, .int .i64 0, .int .i64 0, .int .i64 0] 23)).heap.size := by rw [hg5]; simp
    have n5 : W2.heap.size ≤ g5 := by rw [hg5]; exact B3.out.size
    rw [← hg5] at h5 ⊢
    clear hg5 B3
    generalize wj.alloc (.cells #[.int .i64 0, .int .i64 0, .int .i64 0, .int .i64 0, .int .i64 0] 23) = W4 at *
    refine J_loud1 17 _ rfl (by kernel_rfl) ?_
    simp only [List.getElem_toArray, List.getElem_cons_succ, List.getElem_cons_zero]
    intro wj hj
    have h5 := (hj.block g5 l5).trans h5
    have B5 : Hid (Below W2.heap.size W2 wj) := B4.out.trans (hj.mono B4.out.size)
    have l5 : g5 < wj.heap.size := by have := hj.size; omega
    clear hj B4
    have q0 := cell_of_heap h5 0
    have q1 := cell_of_heap h5 1
    have q2 := cell_of_heap h5 2
    have q3 := cell_of_heap h5 3
    have q4 := cell_of_heap h5 4
    have qf := fun o => frozen_of_heap h5 o
    simp only [List.getElem?_toArray, List.getElem?_cons_zero, List.getElem?_cons_succ] at q0 q1 q2 q3 q4
    clear h5
    go_wp2_with fail
    refine ⟨keepX_set5 wj _ _ _ _ _ (fun b hb => by rcases hb with rfl | rfl <;> omega), ?_⟩
    obtain ⟨W6, hW6⟩ : ∃ W6, W6 = (((((wj.setCell ⟨g5, 0, none⟩ (.int .i64 0)).setCell ⟨g5, 1, none⟩ (.int .i64 0)).setCell ⟨g5, 2, none⟩ (.int .i64 0)).setCell ⟨g5, 3, none⟩ (.int .i64 0)).setCell ⟨g5, 4, none⟩ (.int .i64 0)) := ⟨_, rfl⟩
    rw [← hW6]
    have B6 : Hid (Below W2.heap.size W2 W6) := by rw [hW6]; exact below_set5 B5.out n5 _ _ _ _ _
    have p0 : W6.cell? ⟨g5, 0, none⟩ = some (.int .i64 0) := by rw [hW6]; simp [go_sem, q0, q1, q2, q3, q4, l5]
    have p1 : W6.cell? ⟨g5, 1, none⟩ = some (.int .i64 0) := by rw [hW6]; simp [go_sem, q0, q1, q2, q3, q4, l5]
    have p2 : W6.cell? ⟨g5, 2, none⟩ = some (.int .i64 0) := by rw [hW6]; simp [go_sem, q0, q1, q2, q3, q4, l5]
    have p3 : W6.cell? ⟨g5, 3, none⟩ = some (.int .i64 0) := by rw [hW6]; simp [go_sem, q0, q1, q2, q3, q4, l5]
    have p4 : W6.cell? ⟨g5, 4, none⟩ = some (.int .i64 0) := by rw [hW6]; simp [go_sem, q0, q1, q2, q3, q4, l5]
    have l6 : g5 < W6.heap.size := by rw [hW6]; simpa using l5
    clear hW6 q0 q1 q2 q3 q4 qf B5 l5
    refine J_mobs [18] _ _ _ _ (by kernel_rfl) ?_
    simp only [List.map_cons, List.map_nil, List.getElem?_toArray, List.getElem?_cons_succ, List.getElem?_cons_zero, Option.getD_some, List.size_toArray, List.length_cons, List.length_nil, Nat.reduceAdd, Nat.reduceSub]
    repeat (go_big_quiet_step (fail))
    refine wpQuiet_nil ?_
    refine J_done (by kernel_rfl) (fun wj hj => ?_) _
    have p0 := (hj.cell (p := ⟨g5, 0, none⟩) l6).trans p0
    have p1 := (hj.cell (p := ⟨g5, 1, none⟩) l6).trans p1
    have p2 := (hj.cell (p := ⟨g5, 2, none⟩) l6).trans p2
    have p3 := (hj.cell (p := ⟨g5, 3, none⟩) l6).trans p3
    have p4 := (hj.cell (p := ⟨g5, 4, none⟩) l6).trans p4
    have B7 : Hid (Below W2.heap.size W2 wj) := B6.out.trans (hj.mono B6.out.size)
    have M7 := Lib.hid (M2.out.grow B7.out)
    have lt1 : k.bt < wj.heap.size := M7.out.btLt.2
    have lr : w.heap.size < wj.heap.size := by have := B7.out.size; omega
    have HH7 : Hid (wj.heap[w.heap.size]? = _) := (B7.out.block w.heap.size lr2).trans HH.out
    clear hj B6 l6 HH M2
    have y0 := M7.out.cT N 0 hlt (by decide)
    have y1 := M7.out.cT N 1 hlt (by decide)
    have y2 := M7.out.cT N 2 hlt (by decide)
    have y3 := M7.out.cT N 3 hlt (by decide)
    have y4 := M7.out.cT N 4 hlt (by decide)
    have y5 := M7.out.cT N 5 hlt (by decide)
    have y6 := M7.out.cT N 6 hlt (by decide)
    have yf := M7.out.mt.frozenAt
    rw [HT.out] at y0 y1 y2 y3 y4 y5 y6
    simp only [Mt.cells, List.getElem?_cons_succ, List.getElem?_cons_zero, Nat.add_zero] at y0 y1 y2 y3 y4 y5 y6
    obtain ⟨s1, s2⟩ := M7.out.setT N hlt ⟨true, false, ⟨0, 0, 0, 0, 0⟩⟩ (fun _ => by rw [HX.out, HD.out]; exact ⟨rfl, rfl⟩)
    have s1 := Lib.hid s1
    have s2 := Lib.hid s2
    dsimp only at s1 s2
    go_wp2_with fail
    generalize (((((((wj.setCell ⟨k.bt, N * 7, none⟩ (.bool true)).setCell ⟨k.bt, N * 7 + 1, none⟩ (.bool false)).setCell ⟨k.bt, N * 7 + 2, none⟩ (.int .i64 0)).setCell ⟨k.bt, N * 7 + 3, none⟩ (.int .i64 0)).setCell ⟨k.bt, N * 7 + 4, none⟩ (.int .i64 0)).setCell ⟨k.bt, N * 7 + 5, none⟩ (.int .i64 0)).setCell ⟨k.bt, N * 7 + 6, none⟩ (.int .i64 0)) = W8 at s1 s2 ⊢
    have HH : Hid (W8.heap[w.heap.size]? = _) := (s2.out.keep w.heap.size lr (by omega) (by omega) (fun e => by have := (own_lt H0.out.dd e.symm).2; omega) (fun e => by have := (own_lt H0.out.ll e.symm).2; omega)).trans HH7.out
    have lr : w.heap.size < W8.heap.size := by have := s2.out.size; omega
    have lt1 : k.bt < W8.heap.size := s1.out.btLt.2
    have hNt : N < ts.length := by rw [H0.out.tl]; exact hlt
    have C9 : Hid (Chv k vl vl w W8.drew) := (((Chv.of_below B2.out).trans (Chv.of_below B7.out)).trans s2.out).trans (Chv.of_below (Below.drew (Below.refl _ _)))
    have M9 : Hid (Vm k W8.drew vl m (ts.set N ⟨true, false, ⟨0, 0, 0, 0, 0⟩⟩)) := s1.out.grow (Below.drew (Below.refl _ _))
    clear y0 y1 y2 y3 y4 y5 y6 yf p0 p1 p2 p3 p4 HH7 M7 B7 s2
    have y1 := s1.out.cT N 1 hlt (by decide)
    have y2 := s1.out.cT N 2 hlt (by decide)
    have y3 := s1.out.cT N 3 hlt (by decide)
    have y4 := s1.out.cT N 4 hlt (by decide)
    have y5 := s1.out.cT N 5 hlt (by decide)
    have y6 := s1.out.cT N 6 hlt (by decide)
    rw [getD_setM ts N _ hNt] at y1 y2 y3 y4 y5 y6
    simp only [Mt.cells, List.getElem?_cons_succ, List.getElem?_cons_zero] at y1 y2 y3 y4 y5 y6
    clear s1
    have hh : W8.drew.heap[w.heap.size]? = _ := HH.out
    have r0 := cell_of_heap hh 0
    have r1 := cell_of_heap hh 1
    have r2 := cell_of_heap hh 2
    have r3 := cell_of_heap hh 3
    have r4 := cell_of_heap hh 4
    have rf := fun o => frozen_of_heap hh o
    simp only [List.getElem?_toArray, List.getElem?_cons_zero, List.getElem?_cons_succ] at r0 r1 r2 r3 r4
    clear hh
    have y1 : W8.drew.cell? ⟨k.bt, N * 7 + 1, none⟩ = _ := y1
    have y2 : W8.drew.cell? ⟨k.bt, N * 7 + 2, none⟩ = _ := y2
    have y3 : W8.drew.cell? ⟨k.bt, N * 7 + 3, none⟩ = _ := y3
    have y4 : W8.drew.cell? ⟨k.bt, N * 7 + 4, none⟩ = _ := y4
    have y5 : W8.drew.cell? ⟨k.bt, N * 7 + 5, none⟩ = _ := y5
    have y6 : W8.drew.cell? ⟨k.bt, N * 7 + 6, none⟩ = _ := y6
    have lr : w.heap.size < W8.drew.heap.size := lr
    have lt1 : k.bt < W8.drew.heap.size := lt1
    go_wp2_with fail
    refine wp_region_game (fun x => x = k.bt) (by kernel_rfl) ?_
    show wpE _ _ _ _ _ _ _ W8.drew
    generalize W8.drew = W9 at *
    refine E_mob2s [0, 1, 2, 3, 4, 5, 6, 7] _ _ _ _ (by kernel_rfl) ?_
    simp only [List.map_cons, List.map_nil, List.getElem?_toArray, List.getElem?_cons_succ, List.getElem?_cons_zero, Option.getD_some, List.size_toArray, List.length_cons, List.length_nil, Nat.reduceAdd, Nat.reduceSub]
    repeat (go_big_quiet_step (fail))
    refine wpQuiet_nil ?_
    refine E_loud1 8 _ rfl (by kernel_rfl) ?_
    simp only [List.getElem_toArray, List.getElem_cons_succ, List.getElem_cons_zero]
    go_wp2_with fail
    refine ⟨keep_set5 W9 _ _ _ _ _ (fun b hb => by cases hb; omega), ?_⟩
    refine E_mob2s [9] _ _ _ _ (by kernel_rfl) ?_
    simp only [List.map_cons, List.map_nil, List.getElem?_toArray, List.getElem?_cons_succ, List.getElem?_cons_zero, Option.getD_some, List.size_toArray, List.length_cons, List.length_nil, Nat.reduceAdd, Nat.reduceSub]
    repeat (go_big_quiet_step (fail))
    refine wpQuiet_nil ?_
    refine E_done (by kernel_rfl) ?_ _
    go_wp2_with fail
    obtain ⟨u1, u2⟩ := vset5 M9.out H0.out C9.out (Nat.le_refl _) (.int .i64 0) (.int .i64 0) (.int .i64 0) (.int .i64 0) (.int .i64 0)
    exact bodyPost_ret (v := .tuple #[.agg #[.int .i64 0, .int .i64 0, .int .i64 0, .int .i64 0, .int .i64 0], .bool false]) (by simp [results, Try.results54, go_sem, r0, r1, r2, r3, r4, lr]) rfl ⟨_, by rw [HD.out]; rfl, u1, u2⟩
  | some i =>
    rw [hD] at CD
    obtain ⟨iop, ird, irx, iry, iim⟩ := i
    have CD : Hid (∀ w, Calls Try.prog 13 #[.int .u32 x] w fun e w' => e = .returned (.tuple #[.agg #[.int .i64 iop, .int .i64 ird, .int .i64 irx, .int .i64 iry, .int .i64 iim], .int .i64 0]) ∧ Below w.heap.size w w') := CD
    have HD := Lib.hid hD
    clear hD
    go_wp2_with fail
    refine wp_region_junk (fun x => x = k.bm ∨ x = gc) (by kernel_rfl) ?_
    refine J_mobs [0, 1, 2, 3, 4, 5, 6, 7, 8, 9, 10, 11] _ _ _ _ (by kernel_rfl) ?_
    simp only [List.map_cons, List.map_nil, List.getElem?_toArray, List.getElem?_cons_succ, List.getElem?_cons_zero, Option.getD_some, List.size_toArray, List.length_cons, List.length_nil, Nat.reduceAdd, Nat.reduceSub]
    repeat (go_big_quiet_step (fail))
    refine wpQuiet_nil ?_
    clear hN
    refine J_call 12 _ (.tuple #[.agg #[.int .i64 iop, .int .i64 ird, .int .i64 irx, .int .i64 iry, .int .i64 iim], .int .i64 0]) rfl (by kernel_rfl) rfl ?_ ?_
    all_goals simp only [List.getElem_toArray, List.getElem_cons_succ, List.getElem_cons_zero]
    · intro wk hk
      go_wp2_with fail
      refine (CD.out _).mono ?_
      rintro e wz ⟨rfl, hb⟩
      go_wp2_with fail
      exact ⟨rfl, hb⟩
    simp only [Act.put, List.setIfInBounds_toArray, List.set_cons_succ, List.set_cons_zero]
    refine J_mobs [13, 14, 15] _ _ _ _ (by kernel_rfl) ?_
    simp only [List.map_cons, List.map_nil, List.getElem?_toArray, List.getElem?_cons_succ, List.getElem?_cons_zero, Option.getD_some, List.size_toArray, List.length_cons, List.length_nil, Nat.reduceAdd, Nat.reduceSub]
    repeat (go_big_quiet_step (fail))
    refine wpQuiet_nil ?_
    refine J_loud1 16 _ rfl (by kernel_rfl) ?_
    simp only [List.getElem_toArray, List.getElem_cons_succ, List.getElem_cons_zero]
    intro wj hj
    have B3 : Hid (Below W2.heap.size W2 wj) := hj
    clear hj
    go_wp2_with fail
    refine ⟨KeepX.below (vbelow1 wj _), ?_⟩
    have B4 : Hid (Below W2.heap.size W2 _) := B3.out.trans ((vbelow1 wj (.cells #[.int .i64 0, .int .i64 0, .int .i64 0, .int .i64 0, .int .i64 0] 23)).mono B3.out.size)
    have h5 := heap_alloc_new wj (.cells #[.int .i64 0, .int .i64 0, .int .i64 0, .int .i64 0, .int .i64 0] 23)
    obtain ⟨g5, hg5⟩ : ∃ g5, g5 = wj.heap.size := ⟨_, rfl⟩
    have l5 : g5 < (wj.alloc (.cells #[.int .i64 0, .int .i64 0, .int .i64 0, .int .i64 0, .int .i64 0] 23)).heap.size := by rw [hg5]; simp
    have n5 : W2.heap.size ≤ g5 := by rw [hg5]; exact B3.out.size
    rw [← hg5] at h5 ⊢
    clear hg5 B3
    generalize wj.alloc (.cells #[.int .i64 0, .int .i64 0, .int .i64 0, .int .i64 0, .int .i64 0] 23) = W4 at *
    refine J_loud1 17 _ rfl (by kernel_rfl) ?_
    simp only [List.getElem_toArray, List.getElem_cons_succ, List.getElem_cons_zero]
    intro wj hj
    have h5 := (hj.block g5 l5).trans h5
    have B5 : Hid (Below W2.heap.size W2 wj) := B4.out.trans (hj.mono B4.out.size)
    have l5 : g5 < wj.heap.size := by have := hj.size; omega
    clear hj B4
    have q0 := cell_of_heap h5 0
    have q1 := cell_of_heap h5 1
    have q2 := cell_of_heap h5 2
    have q3 := cell_of_heap h5 3
    have q4 := cell_of_heap h5 4
    have qf := fun o => frozen_of_heap h5 o
    simp only [List.getElem?_toArray, List.getElem?_cons_zero, List.getElem?_cons_succ] at q0 q1 q2 q3 q4
    clear h5
    go_wp2_with fail
    refine ⟨keepX_set5 wj _ _ _ _ _ (fun b hb => by rcases hb with rfl | rfl <;> omega), ?_⟩
    obtain ⟨W6, hW6⟩ : ∃ W6, W6 = (((((wj.setCell ⟨g5, 0, none⟩ (.int .i64 iop)).setCell ⟨g5, 1, none⟩ (.int .i64 ird)).setCell ⟨g5, 2, none⟩ (.int .i64 irx)).setCell ⟨g5, 3, none⟩ (.int .i64 iry)).setCell ⟨g5, 4, none⟩ (.int .i64 iim)) := ⟨_, rfl⟩
    rw [← hW6]
    have B6 : Hid (Below W2.heap.size W2 W6) := by rw [hW6]; exact below_set5 B5.out n5 _ _ _ _ _
    have p0 : W6.cell? ⟨g5, 0, none⟩ = some (.int .i64 iop) := by rw [hW6]; simp [go_sem, q0, q1, q2, q3, q4, l5]
    have p1 : W6.cell? ⟨g5, 1, none⟩ = some (.int .i64 ird) := by rw [hW6]; simp [go_sem, q0, q1, q2, q3, q4, l5]
    have p2 : W6.cell? ⟨g5, 2, none⟩ = some (.int .i64 irx) := by rw [hW6]; simp [go_sem, q0, q1, q2, q3, q4, l5]
    have p3 : W6.cell? ⟨g5, 3, none⟩ = some (.int .i64 iry) := by rw [hW6]; simp [go_sem, q0, q1, q2, q3, q4, l5]
    have p4 : W6.cell? ⟨g5, 4, none⟩ = some (.int .i64 iim) := by rw [hW6]; simp [go_sem, q0, q1, q2, q3, q4, l5]
    have l6 : g5 < W6.heap.size := by rw [hW6]; simpa using l5
    clear hW6 q0 q1 q2 q3 q4 qf B5 l5
    refine J_mobs [18] _ _ _ _ (by kernel_rfl) ?_
    simp only [List.map_cons, List.map_nil, List.getElem?_toArray, List.getElem?_cons_succ, List.getElem?_cons_zero, Option.getD_some, List.size_toArray, List.length_cons, List.length_nil, Nat.reduceAdd, Nat.reduceSub]
    repeat (go_big_quiet_step (fail))
    refine wpQuiet_nil ?_
    refine J_done (by kernel_rfl) (fun wj hj => ?_) _
    have p0 := (hj.cell (p := ⟨g5, 0, none⟩) l6).trans p0
    have p1 := (hj.cell (p := ⟨g5, 1, none⟩) l6).trans p1
    have p2 := (hj.cell (p := ⟨g5, 2, none⟩) l6).trans p2
    have p3 := (hj.cell (p := ⟨g5, 3, none⟩) l6).trans p3
    have p4 := (hj.cell (p := ⟨g5, 4, none⟩) l6).trans p4
    have B7 : Hid (Below W2.heap.size W2 wj) := B6.out.trans (hj.mono B6.out.size)
    have M7 := Lib.hid (M2.out.grow B7.out)
    have lt1 : k.bt < wj.heap.size := M7.out.btLt.2
    have lr : w.heap.size < wj.heap.size := by have := B7.out.size; omega
    have HH7 : Hid (wj.heap[w.heap.size]? = _) := (B7.out.block w.heap.size lr2).trans HH.out
    clear hj B6 l6 HH M2
    have y0 := M7.out.cT N 0 hlt (by decide)
    have y1 := M7.out.cT N 1 hlt (by decide)
    have y2 := M7.out.cT N 2 hlt (by decide)
    have y3 := M7.out.cT N 3 hlt (by decide)
    have y4 := M7.out.cT N 4 hlt (by decide)
    have y5 := M7.out.cT N 5 hlt (by decide)
    have y6 := M7.out.cT N 6 hlt (by decide)
    have yf := M7.out.mt.frozenAt
    rw [HT.out] at y0 y1 y2 y3 y4 y5 y6
    simp only [Mt.cells, List.getElem?_cons_succ, List.getElem?_cons_zero, Nat.add_zero] at y0 y1 y2 y3 y4 y5 y6
    obtain ⟨s1, s2⟩ := M7.out.setT N hlt ⟨true, true, ⟨iop, ird, irx, iry, iim⟩⟩ (fun _ => by rw [HX.out, HD.out]; exact ⟨rfl, rfl⟩)
    have s1 := Lib.hid s1
    have s2 := Lib.hid s2
    dsimp only at s1 s2
    go_wp2_with fail
    generalize (((((((wj.setCell ⟨k.bt, N * 7, none⟩ (.bool true)).setCell ⟨k.bt, N * 7 + 1, none⟩ (.bool true)).setCell ⟨k.bt, N * 7 + 2, none⟩ (.int .i64 iop)).setCell ⟨k.bt, N * 7 + 3, none⟩ (.int .i64 ird)).setCell ⟨k.bt, N * 7 + 4, none⟩ (.int .i64 irx)).setCell ⟨k.bt, N * 7 + 5, none⟩ (.int .i64 iry)).setCell ⟨k.bt, N * 7 + 6, none⟩ (.int .i64 iim)) = W8 at s1 s2 ⊢
    have HH : Hid (W8.heap[w.heap.size]? = _) := (s2.out.keep w.heap.size lr (by omega) (by omega) (fun e => by have := (own_lt H0.out.dd e.symm).2; omega) (fun e => by have := (own_lt H0.out.ll e.symm).2; omega)).trans HH7.out
    have lr : w.heap.size < W8.heap.size := by have := s2.out.size; omega
    have lt1 : k.bt < W8.heap.size := s1.out.btLt.2
    have hNt : N < ts.length := by rw [H0.out.tl]; exact hlt
    have C9 : Hid (Chv k vl vl w W8.drew) := (((Chv.of_below B2.out).trans (Chv.of_below B7.out)).trans s2.out).trans (Chv.of_below (Below.drew (Below.refl _ _)))
    have M9 : Hid (Vm k W8.drew vl m (ts.set N ⟨true, true, ⟨iop, ird, irx, iry, iim⟩⟩)) := s1.out.grow (Below.drew (Below.refl _ _))
    clear y0 y1 y2 y3 y4 y5 y6 yf p0 p1 p2 p3 p4 HH7 M7 B7 s2
    have y1 := s1.out.cT N 1 hlt (by decide)
    have y2 := s1.out.cT N 2 hlt (by decide)
    have y3 := s1.out.cT N 3 hlt (by decide)
    have y4 := s1.out.cT N 4 hlt (by decide)
    have y5 := s1.out.cT N 5 hlt (by decide)
    have y6 := s1.out.cT N 6 hlt (by decide)
    rw [getD_setM ts N _ hNt] at y1 y2 y3 y4 y5 y6
    simp only [Mt.cells, List.getElem?_cons_succ, List.getElem?_cons_zero] at y1 y2 y3 y4 y5 y6
    clear s1
    have hh : W8.drew.heap[w.heap.size]? = _ := HH.out
    have r0 := cell_of_heap hh 0
    have r1 := cell_of_heap hh 1
    have r2 := cell_of_heap hh 2
    have r3 := cell_of_heap hh 3
    have r4 := cell_of_heap hh 4
    have rf := fun o => frozen_of_heap hh o
    simp only [List.getElem?_toArray, List.getElem?_cons_zero, List.getElem?_cons_succ] at r0 r1 r2 r3 r4
    clear hh
    have y1 : W8.drew.cell? ⟨k.bt, N * 7 + 1, none⟩ = _ := y1
    have y2 : W8.drew.cell? ⟨k.bt, N * 7 + 2, none⟩ = _ := y2
    have y3 : W8.drew.cell? ⟨k.bt, N * 7 + 3, none⟩ = _ := y3
    have y4 : W8.drew.cell? ⟨k.bt, N * 7 + 4, none⟩ = _ := y4
    have y5 : W8.drew.cell? ⟨k.bt, N * 7 + 5, none⟩ = _ := y5
    have y6 : W8.drew.cell? ⟨k.bt, N * 7 + 6, none⟩ = _ := y6
    have lr : w.heap.size < W8.drew.heap.size := lr
    have lt1 : k.bt < W8.drew.heap.size := lt1
    go_wp2_with fail
    refine wp_region_game (fun x => x = k.bt) (by kernel_rfl) ?_
    show wpE _ _ _ _ _ _ _ W8.drew
    generalize W8.drew = W9 at *
    refine E_mob2s [0, 1, 2, 3, 4, 5, 6, 7] _ _ _ _ (by kernel_rfl) ?_
    simp only [List.map_cons, List.map_nil, List.getElem?_toArray, List.getElem?_cons_succ, List.getElem?_cons_zero, Option.getD_some, List.size_toArray, List.length_cons, List.length_nil, Nat.reduceAdd, Nat.reduceSub]
    repeat (go_big_quiet_step (fail))
    refine wpQuiet_nil ?_
    refine E_loud1 8 _ rfl (by kernel_rfl) ?_
    simp only [List.getElem_toArray, List.getElem_cons_succ, List.getElem_cons_zero]
    go_wp2_with fail
    refine ⟨keep_set5 W9 _ _ _ _ _ (fun b hb => by cases hb; omega), ?_⟩
    refine E_mob2s [9] _ _ _ _ (by kernel_rfl) ?_
    simp only [List.map_cons, List.map_nil, List.getElem?_toArray, List.getElem?_cons_succ, List.getElem?_cons_zero, Option.getD_some, List.size_toArray, List.length_cons, List.length_nil, Nat.reduceAdd, Nat.reduceSub]
    repeat (go_big_quiet_step (fail))
    refine wpQuiet_nil ?_
    refine E_done (by kernel_rfl) ?_ _
    go_wp2_with fail
    obtain ⟨u1, u2⟩ := vset5 M9.out H0.out C9.out (Nat.le_refl _) (.int .i64 iop) (.int .i64 ird) (.int .i64 irx) (.int .i64 iry) (.int .i64 iim)
    exact bodyPost_ret (v := .tuple #[.agg #[.int .i64 iop, .int .i64 ird, .int .i64 irx, .int .i64 iry, .int .i64 iim], .bool true]) (by simp [results, Try.results54, go_sem, r0, r1, r2, r3, r4, lr]) rfl ⟨_, by rw [HD.out]; rfl, u1, u2⟩
theorem vfetch_c (h : Vm k w vl m ts) (hk : k.ok) (hm : Dok m) :
    Calls Try.prog 54 #[.pointer (some ⟨k.bm, 0, none⟩)] w fun e w' => ∃ ts', e = .returned (fetV (fetchD k m)) ∧ Vm k w' vl m ts' ∧ Chv k vl vl w w' := by
  unfold fetchD
  by_cases hr : m.pc % 4 = 0 ∧ m.pc / 4 < (k.code.length : Int)
  · rw [if_pos hr]
    have hp := hm.pb
    obtain ⟨N, hN⟩ : ∃ N : Nat, m.pc / 4 = (N : Int) := ⟨(m.pc / 4).toNat, by omega⟩
    rw [hN, Int.toNat_natCast]
    cases hs : (ts.getD N default).seen
    · exact vfetch_new h hk hm N hN hr.1 (by omega) hs
    · refine (vfetch_seen h hk hm N hN hr.1 (by omega) hs).mono ?_
      rintro e w' ⟨rfl, hb⟩
      exact ⟨ts, rfl, h.grow hb, Chv.of_below hb⟩
  · rw [if_neg hr]
    refine (vfetch_no h hk hm hr).mono ?_
    rintro e w' ⟨rfl, hb⟩
    exact ⟨ts, rfl, h.grow hb, Chv.of_below hb⟩
end
end Go.Proofs.Ytppmjdljnacpgaa
