/-
  FlowEach walked: a block's instructions backward, each with what is live behind it.
-/
import Derived.Test.YtnnhobbabcfogaaU5
import Derived.Test.YtnnhobbabcfogaaH5
import Derived.Test.YtnnhobbabcfogaaG8
import Derived.Test.YtnnhobbabcfogaaN2
set_option linter.all false
namespace Go.Proofs.Ytnnhobbabcfogaa
open Go.ChangeShapes Go.WideShapes Go.ChangeAt Go.RowKit
set_option maxHeartbeats 4000000
set_option maxRecDepth 100000
set_option linter.unusedVariables false
attribute [local go_sem] Oper.semAt_some

theorem leavesM_nil {P : Program} {n : Nat} {fn : Func} {R : Ending → World → Prop} {a : Act} {w : World} {v : Value} (hr : (results fn a.tmps).run P w = .ok v w) (hd : a.defers = []) (hR : R (.returned v) w) : bodyPostM Fence.wide n P fn R .ret a w := by
  show LeavesInM Fence.wide n P fn a.tmps R a.defers .returning w
  rw [hd]
  exact ⟨v, hr, hR⟩
theorem leavesM_one {P : Program} {n b : Nat} {fn : Func} {R : Ending → World → Prop} {a : Act} {w : World} {v : Value} (hd : a.defers = [{ target := .collected b, args := #[] }]) (hb : w.heap[b]? = some (.deferred (some [])))
    (hr : (results fn a.tmps).run P (w.putObj b (.deferred none)) = .ok v (w.putObj b (.deferred none))) (hR : R (.returned v) (w.putObj b (.deferred none))) : bodyPostM Fence.wide n P fn R .ret a w := by
  show LeavesInM Fence.wide n P fn a.tmps R a.defers .returning w
  rw [hd]
  exact ⟨by simp, .inl ⟨_, _, rfl, run_takeDeferred hb, ⟨v, hr, hR⟩⟩⟩
/-- the call's three boxes -/
structure BxE (w : World) (k : Int) (p : Pr) (nm : ByteArray) (vo vb : Value) (r : Bool) (w' : World) : Prop where
  b0 : w'.heap[w.heap.size]? = some (.cells #[.string nm, .bool p.void, .int .i64 p.params, .int .i64 p.regs, vo, vb] 32)
  b1 : w'.heap[w.heap.size + 1]? = some (.cells #[.int .i64 k] 3)
  b2 : w'.heap[w.heap.size + 1 + 1]? = some (.cells #[.bool r] 4)
  below : Below w.heap.size w w'
theorem BxE.grow {w w1 w2 : World} {k : Int} {p : Pr} {nm : ByteArray} {vo vb : Value} {r : Bool} (h : BxE w k p nm vo vb r w1) (hb : Below (w.heap.size + 1 + 1 + 1) w1 w2) : BxE w k p nm vo vb r w2 :=
  ⟨(hb.block _ (by omega)).trans h.b0, (hb.block _ (by omega)).trans h.b1, (hb.block _ (by omega)).trans h.b2, h.below.trans (hb.mono (by omega))⟩
theorem BxE.size {w w1 : World} {k : Int} {p : Pr} {nm : ByteArray} {vo vb : Value} {r : Bool} (h : BxE w k p nm vo vb r w1) : w.heap.size + 1 + 1 + 1 ≤ w1.heap.size := (Array.getElem?_eq_some_iff.1 h.b2).1
theorem BxE.grown {w w1 w2 : World} {k : Int} {p : Pr} {nm : ByteArray} {vo vb : Value} {r : Bool} (h : BxE w k p nm vo vb r w1) (hb : Below w1.heap.size w1 w2) : BxE w k p nm vo vb r w2 := h.grow (hb.mono h.size)
theorem BxE.new (w : World) (k : Int) (p : Pr) (nm : ByteArray) (vo vb : Value) : BxE w k p nm vo vb false (((w.alloc (.cells #[.string nm, .bool p.void, .int .i64 p.params, .int .i64 p.regs, vo, vb] 32)).alloc (.cells #[.int .i64 k] 3)).alloc (.cells #[.bool false] 4)) := by
  have b0 := heap_alloc_new w (.cells #[.string nm, .bool p.void, .int .i64 p.params, .int .i64 p.regs, vo, vb] 32)
  have b1 := heap_alloc_new (w.alloc (.cells #[.string nm, .bool p.void, .int .i64 p.params, .int .i64 p.regs, vo, vb] 32)) (.cells #[.int .i64 k] 3)
  have b2 := heap_alloc_new ((w.alloc (.cells #[.string nm, .bool p.void, .int .i64 p.params, .int .i64 p.regs, vo, vb] 32)).alloc (.cells #[.int .i64 k] 3)) (.cells #[.bool false] 4)
  simp only [World.size_alloc] at b1 b2
  exact ⟨((below_alloc _ _).block _ (by simp; try omega)).trans (((below_alloc _ _).block _ (by simp; try omega)).trans b0), ((below_alloc _ _).block _ (by simp; try omega)).trans b1, b2, ((below_alloc w _).alloc (by simp; try omega) _).alloc (by simp; try omega) _⟩
/-- the three boxes of Each -/
structure BnE (w : World) (k : Int) (p : Pr) (nm : ByteArray) (vo vb o : Value) (w' : World) : Prop where
  b0 : w'.heap[w.heap.size]? = some (.cells #[.string nm, .bool p.void, .int .i64 p.params, .int .i64 p.regs, vo, vb] 32)
  b1 : w'.heap[w.heap.size + 1]? = some (.cells #[.int .i64 k] 3)
  b2 : w'.heap[w.heap.size + 2]? = some (.cells #[o] 45)
  below : Below w.heap.size w w'
theorem BnE.new (w : World) (k : Int) (p : Pr) (nm : ByteArray) (vo vb o : Value) : BnE w k p nm vo vb o (((w.alloc (.cells #[.string nm, .bool p.void, .int .i64 p.params, .int .i64 p.regs, vo, vb] 32)).alloc (.cells #[.int .i64 k] 3)).alloc (.cells #[o] 45)) := by
  have b0 := heap_alloc_new w (.cells #[.string nm, .bool p.void, .int .i64 p.params, .int .i64 p.regs, vo, vb] 32)
  have b1 := heap_alloc_new (w.alloc (.cells #[.string nm, .bool p.void, .int .i64 p.params, .int .i64 p.regs, vo, vb] 32)) (.cells #[.int .i64 k] 3)
  have b2 := heap_alloc_new ((w.alloc (.cells #[.string nm, .bool p.void, .int .i64 p.params, .int .i64 p.regs, vo, vb] 32)).alloc (.cells #[.int .i64 k] 3)) (.cells #[o] 45)
  simp only [World.size_alloc] at b1 b2
  exact ⟨((below_alloc _ _).block _ (by simp; try omega)).trans (((below_alloc _ _).block _ (by simp; try omega)).trans b0), ((below_alloc _ _).block _ (by simp; try omega)).trans b1, b2, ((below_alloc w _).alloc (by simp; try omega) _).alloc (by simp; try omega) _⟩
/-- the answer is laid down -/
theorem BxE.answer {w w1 : World} {k : Int} {p : Pr} {nm : ByteArray} {vo vb : Value} {r : Bool} (h : BxE w k p nm vo vb r w1) (v : Value) : Below w.heap.size w (w1.setCell ⟨w.heap.size + 1 + 1, 0, none⟩ v) := h.below.setCell (by simp only; omega) _
theorem flowEach_few (p : Pr) (V : Value) (k : Int) (w : World) (hP : PrV w V p) (hf : fewP p = false) :
    Calls Try.prog 10 #[V, .int .i64 k] w fun e w' => e = .returned (.bool true) ∧ Below w.heap.size w w' := by
  have EF : Hid (∀ w', Ext w w' → Calls Try.prog 43 #[V] w' fun e w'' => e = .returned (.bool false) ∧ Below w'.heap.size w' w'') := fun w' he => by rw [← hf]; exact fewp_c p V _ (hP.ext he)
  obtain ⟨nm, vo, vb, rfl, -, a, c, rfl, -, -, -⟩ := hP
  clear hf
  refine callsIn_wide.1 (callsIn_of_wp_marks (n := 6) Try.func10 rfl trivial ?_ rfl)
  simp only [Try.ntmps10, List.size_toArray, List.length_cons, List.length_nil, Nat.reduceAdd, Nat.reduceSub, Array.replicate_succ, Array.replicate_zero, List.push_toArray, List.append_toArray, List.nil_append, List.cons_append]
  refine wpIn_wide.2 ?_
  obtain ⟨W0, hW0⟩ : ∃ W0, W0 = (((w.alloc (.cells #[.string nm, .bool p.void, .int .i64 p.params, .int .i64 p.regs, vo, .slice a p.blks.length c] 32)).alloc (.cells #[.int .i64 k] 3)).alloc (.cells #[.bool false] 4)) := ⟨_, rfl⟩
  have BX : Hid (BxE w k p nm vo (.slice a p.blks.length c) false W0) := by rw [hW0]; exact BxE.new _ _ _ _ _ _
  have HW0 := Lib.hid hW0
  clear hW0
  go_wp2_with fail
  rw [← HW0.out]
  refine (EF.out W0 (Ext.below BX.out.below)).mono ?_
  rintro e w1 ⟨rfl, hb1⟩
  have BX := Lib.hid (BX.out.grown hb1)
  clear hb1 HW0
  go_wp2_with fail
  refine (awake16_c _).mono ?_
  rintro e w2 ⟨rfl, hb2⟩
  have BX := Lib.hid (BX.out.grown hb2)
  clear hb2 EF
  have x0 := cell_of_heap BX.out.b0 0
  have x1 := cell_of_heap BX.out.b0 1
  have x2 := cell_of_heap BX.out.b0 2
  have x3 := cell_of_heap BX.out.b0 3
  have x4 := cell_of_heap BX.out.b0 4
  have x5 := cell_of_heap BX.out.b0 5
  have yn := cell_of_heap BX.out.b1 0
  have yr := cell_of_heap BX.out.b2 0
  have fr := frozen_of_heap BX.out.b2 0
  simp only [List.getElem?_toArray, List.getElem?_cons_zero, List.getElem?_cons_succ] at x0 x1 x2 x3 x4 x5 yn yr
  go_wp2_with fail
  refine leavesM_nil (v := .bool true) (by simp [results, Try.results10, go_sem, yr]) rfl ?_
  exact ⟨rfl, BX.out.answer _⟩
theorem loopW_below (w : World) (r : Loop) : Below w.heap.size w (loopW w r) := (below_alloc w _).alloc (by simp) _
theorem loopW_size (w : World) (r : Loop) : (loopW w r).heap.size = w.heap.size + 1 + 1 := by simp [loopW]
theorem flowEach_out (p : Pr) (V : Value) (k : Int) (w : World) (hreg : I64 p.regs) (hP : PrV w V p) (hf : fewP p = true) (hk : k < 0 ∨ (p.blks.length : Int) ≤ k) :
    Calls Try.prog 10 #[V, .int .i64 k] w fun e w' => e = .returned (.bool true) ∧ Below w.heap.size w w' := by
  obtain ⟨f1, f2, f3⟩ := fewP_yes hf
  have EF : Hid (∀ w', Ext w w' → Calls Try.prog 43 #[V] w' fun e w'' => e = .returned (.bool true) ∧ Below w'.heap.size w' w'') := fun w' he => by rw [← hf]; exact fewp_c p V _ (hP.ext he)
  have EL : Hid (∀ w', Ext w w' → Calls Try.prog 45 #[V] w' (LivePost p w')) := fun w' he => live_c p V w' (hP.ext he) (by omega) (fun n hn => ⟨by have := (f3 n hn).1; omega, fun k hk => by have := (f3 n hn).2 k hk; omega⟩) (by omega) hreg
  clear f3 hf
  obtain ⟨nm, vo, vb, rfl, -, hvb⟩ := hP
  have hvb' := hvb
  obtain ⟨a, c, rfl, hc1, hc2, -⟩ := hvb'
  unfold maxLen at hc2
  have HVB := Lib.hid hvb
  have HKK := Lib.hid hk
  clear hvb hk
  refine callsIn_wide.1 (callsIn_of_wp_marks (n := 6) Try.func10 rfl trivial ?_ rfl)
  simp only [Try.ntmps10, List.size_toArray, List.length_cons, List.length_nil, Nat.reduceAdd, Nat.reduceSub, Array.replicate_succ, Array.replicate_zero, List.push_toArray, List.append_toArray, List.nil_append, List.cons_append]
  refine wpIn_wide.2 ?_
  obtain ⟨W0, hW0⟩ : ∃ W0, W0 = (((w.alloc (.cells #[.string nm, .bool p.void, .int .i64 p.params, .int .i64 p.regs, vo, .slice a p.blks.length c] 32)).alloc (.cells #[.int .i64 k] 3)).alloc (.cells #[.bool false] 4)) := ⟨_, rfl⟩
  have BX : Hid (BxE w k p nm vo (.slice a p.blks.length c) false W0) := by rw [hW0]; exact BxE.new _ _ _ _ _ _
  have HW0 := Lib.hid hW0
  clear hW0
  go_wp2_with fail
  rw [← HW0.out]
  refine (EF.out W0 (Ext.below BX.out.below)).mono ?_
  rintro e w1 ⟨rfl, hb1⟩
  have BX := Lib.hid (BX.out.grown hb1)
  clear hb1 HW0
  have x0 := cell_of_heap BX.out.b0 0
  have x1 := cell_of_heap BX.out.b0 1
  have x2 := cell_of_heap BX.out.b0 2
  have x3 := cell_of_heap BX.out.b0 3
  have x4 := cell_of_heap BX.out.b0 4
  have x5 := cell_of_heap BX.out.b0 5
  have yn := cell_of_heap BX.out.b1 0
  have yr := cell_of_heap BX.out.b2 0
  have fr := frozen_of_heap BX.out.b2 0
  simp only [List.getElem?_toArray, List.getElem?_cons_zero, List.getElem?_cons_succ] at x0 x1 x2 x3 x4 x5 yn yr
  go_wp2_with fail
  refine (EL.out _ (Ext.below BX.out.below)).mono ?_
  rintro e w2 ⟨kk, vi, vt, gi, go, rfl, hgr, M⟩
  have BX := Lib.hid (BX.out.grown M.below)
  clear hgr M EL EF
  clear x0 x1 x2 x3 x4 x5 yn yr fr
  have x0 := cell_of_heap BX.out.b0 0
  have x1 := cell_of_heap BX.out.b0 1
  have x2 := cell_of_heap BX.out.b0 2
  have x3 := cell_of_heap BX.out.b0 3
  have x4 := cell_of_heap BX.out.b0 4
  have x5 := cell_of_heap BX.out.b0 5
  have yn := cell_of_heap BX.out.b1 0
  have yr := cell_of_heap BX.out.b2 0
  have fr := frozen_of_heap BX.out.b2 0
  simp only [List.getElem?_toArray, List.getElem?_cons_zero, List.getElem?_cons_succ] at x0 x1 x2 x3 x4 x5 yn yr
  have hfn := eql_seq
  have EX : Hid (∀ (l : Nat) (W1 : World), W1.cell? ⟨w2.heap.size, 5, none⟩ = some (.slice a p.blks.length c) → W1.cell? ⟨w2.heap.size + 1, 0, none⟩ = some (.int .i64 k) →
      CallsIn Fence.wide 5 Try.prog 91 #[.func (.yield l) #[] #[], .pointer (some ⟨w2.heap.size + 1, 0, none⟩), .pointer (some ⟨w2.heap.size, 0, none⟩), .pointer (some ⟨w2.heap.size + 2, 0, none⟩)] W1 fun e W' => (∃ v, e = .returned v) ∧ W' = W1) :=
    fun l W1 h5 hn => each1_no p k _ (.slice none 0 0) _ _ _ 5 l w W1 HVB.out HKK.out h5 hn
  obtain ⟨w5, hw5⟩ : ∃ w5, w5 = (((w2.alloc (.cells #[.string nm, .bool p.void, .int .i64 p.params, .int .i64 p.regs, vo, .slice a p.blks.length c] 32)).alloc (.cells #[.int .i64 k] 3)).alloc (.cells #[.slice none 0 0] 45)) := ⟨_, rfl⟩
  have BN : Hid (BnE w2 k p nm vo (.slice a p.blks.length c) (.slice none 0 0) w5) := by rw [hw5]; exact BnE.new _ _ _ _ _ _ _
  have HW5 := Lib.hid hw5
  clear hw5
  by_cases h0 : k < 0
  · go_wp2_with (go_at_call 46; refine (each_c p nm vo _ _ _ _ _ _).mono ?_; rintro e w3 ⟨rfl, rfl⟩)
    have c5 := cell_of_heap BN.out.b0 5
    have cn := cell_of_heap BN.out.b1 0
    simp only [List.getElem?_toArray, List.getElem?_cons_zero, List.getElem?_cons_succ] at c5 cn
    have BX := Lib.hid (BX.out.grown BN.out.below)
    have hz5 := BX.out.size
    rw [← HW5.out]
    clear BN HW5 x0 x1 x2 x3 x4 x5 yn yr fr hfn HKK HVB
    have l5 := World.block_lt_of_cell? w5 _ c5
    have ln := World.block_lt_of_cell? w5 _ cn
    refine (wpIn_wide (n := 6)).1 ?_
    refine wp_rangeOver (n := 6) (gf := 91) rfl (enters_of Try.func91 (by kernel_rfl) rfl) (encE 0) (fun _ => rfl) (fun _ _ _ => False) (fun _ _ _ => True) (fun _ _ _ => False) (fun _ => True)
      (fun _ _ _ h => h.elim) (fun _ _ _ _ _ _ => trivial) (fun _ _ _ _ h => h.elim) (fun _ _ _ _ h => h)
      (fun r J Jx _ _ h0 => (EX.out _ _ ((Below.cell (loopW_below w5 r) l5).trans c5) ((Below.cell (loopW_below w5 r) ln).trans cn)).mono fun e W' h => ⟨h.1, .inl ⟨[], trivial, by rw [h.2]; exact h0⟩⟩)
      (fun _ W => Below w5.heap.size w5 W) (fun _ _ _ => False) (fun _ W o h => h.trans (below_put W o (by omega))) (fun _ _ _ _ h => h) (fun _ _ _ _ h => h.elim) (fun r => loopW_below w5 r) ?_ ?assign (fun _ _ _ _ _ h => h.elim) ?done (fun _ _ _ h => h.elim)
    case assign =>
      intro l x W K hK
      dsimp only [encE]
      gi_wp2
      exact hK
    case done =>
      rintro xs W - hB hK
      have BX := Lib.hid (BX.out.grown hB)
      have HK := Lib.hid hK
      have hD := (Array.getElem?_eq_some_iff.1 hK).1
      clear hK hB c5 cn l5 ln EX
      dsimp only
      go_wp2_with (go_at_call 44; refine (awake16_c _).mono ?_; rintro e w9 ⟨rfl, hb9⟩; have HK9 := Lib.hid ((hb9.block _ hD).trans HK.out); have BX9 := Lib.hid (BX.out.grown hb9); have yr := cell_of_heap BX9.out.b2 0; have fr := frozen_of_heap BX9.out.b2 0; simp only [List.getElem?_toArray, List.getElem?_cons_zero] at yr; clear hb9)
      have hne : w5.heap.size ≠ w.heap.size + 1 + 1 := by omega
      have HK8 : Hid ((w9.setCell ⟨w.heap.size + 1 + 1, 0, none⟩ (.bool true)).heap[w5.heap.size]? = some (.deferred (some []))) := (Below.heap_setCell _ _ _ _ hne).trans HK9.out
      have yq : ((w9.setCell ⟨w.heap.size + 1 + 1, 0, none⟩ (.bool true)).putObj w5.heap.size (.deferred none)).cell? ⟨w.heap.size + 1 + 1, 0, none⟩ = some (.bool true) := (World.cell?_of_block (World.putObj_heap_other (Ne.symm hne))).trans (World.cell?_setCell_same' _ _ _ (by rw [yr]; rfl))
      refine leavesM_one rfl HK8.out (v := .bool true) (by simp [results, Try.results10, go_sem, yq]) ?_
      exact ⟨rfl, (BX9.out.answer _).trans (below_put _ _ (by omega))⟩
  · have h1 : (p.blks.length : Int) ≤ k := by have := HKK.out; omega
    go_wp2_with (go_at_call 46; refine (each_c p nm vo _ _ _ _ _ _).mono ?_; rintro e w3 ⟨rfl, rfl⟩)
    have c5 := cell_of_heap BN.out.b0 5
    have cn := cell_of_heap BN.out.b1 0
    simp only [List.getElem?_toArray, List.getElem?_cons_zero, List.getElem?_cons_succ] at c5 cn
    have BX := Lib.hid (BX.out.grown BN.out.below)
    have hz5 := BX.out.size
    rw [← HW5.out]
    clear BN HW5 x0 x1 x2 x3 x4 x5 yn yr fr hfn HKK HVB
    have l5 := World.block_lt_of_cell? w5 _ c5
    have ln := World.block_lt_of_cell? w5 _ cn
    refine (wpIn_wide (n := 6)).1 ?_
    refine wp_rangeOver (n := 6) (gf := 91) rfl (enters_of Try.func91 (by kernel_rfl) rfl) (encE 0) (fun _ => rfl) (fun _ _ _ => False) (fun _ _ _ => True) (fun _ _ _ => False) (fun _ => True)
      (fun _ _ _ h => h.elim) (fun _ _ _ _ _ _ => trivial) (fun _ _ _ _ h => h.elim) (fun _ _ _ _ h => h)
      (fun r J Jx _ _ h0 => (EX.out _ _ ((Below.cell (loopW_below w5 r) l5).trans c5) ((Below.cell (loopW_below w5 r) ln).trans cn)).mono fun e W' h => ⟨h.1, .inl ⟨[], trivial, by rw [h.2]; exact h0⟩⟩)
      (fun _ W => Below w5.heap.size w5 W) (fun _ _ _ => False) (fun _ W o h => h.trans (below_put W o (by omega))) (fun _ _ _ _ h => h) (fun _ _ _ _ h => h.elim) (fun r => loopW_below w5 r) ?_ ?assign (fun _ _ _ _ _ h => h.elim) ?done (fun _ _ _ h => h.elim)
    case assign =>
      intro l x W K hK
      dsimp only [encE]
      gi_wp2
      exact hK
    case done =>
      rintro xs W - hB hK
      have BX := Lib.hid (BX.out.grown hB)
      have HK := Lib.hid hK
      have hD := (Array.getElem?_eq_some_iff.1 hK).1
      clear hK hB c5 cn l5 ln EX
      dsimp only
      go_wp2_with (go_at_call 44; refine (awake16_c _).mono ?_; rintro e w9 ⟨rfl, hb9⟩; have HK9 := Lib.hid ((hb9.block _ hD).trans HK.out); have BX9 := Lib.hid (BX.out.grown hb9); have yr := cell_of_heap BX9.out.b2 0; have fr := frozen_of_heap BX9.out.b2 0; simp only [List.getElem?_toArray, List.getElem?_cons_zero] at yr; clear hb9)
      have hne : w5.heap.size ≠ w.heap.size + 1 + 1 := by omega
      have HK8 : Hid ((w9.setCell ⟨w.heap.size + 1 + 1, 0, none⟩ (.bool true)).heap[w5.heap.size]? = some (.deferred (some []))) := (Below.heap_setCell _ _ _ _ hne).trans HK9.out
      have yq : ((w9.setCell ⟨w.heap.size + 1 + 1, 0, none⟩ (.bool true)).putObj w5.heap.size (.deferred none)).cell? ⟨w.heap.size + 1 + 1, 0, none⟩ = some (.bool true) := (World.cell?_of_block (World.putObj_heap_other (Ne.symm hne))).trans (World.cell?_setCell_same' _ _ _ (by rw [yr]; rfl))
      refine leavesM_one rfl HK8.out (v := .bool true) (by simp [results, Try.results10, go_sem, yq]) ?_
      exact ⟨rfl, (BX9.out.answer _).trans (below_put _ _ (by omega))⟩
theorem StE.blocks {H : Nat} {s : List EX} {A B : World} (h : StE H s A B) {b : Nat} (hb : b < H) (hA : b < A.heap.size) : B.heap[b]? = A.heap[b]? := by
  cases s with
  | nil => exact Below.block h b hA
  | cons x l => exact h.2.block b hA (by have := h.1; omega)
theorem StE.rest {H : Nat} {s : List EX} {A B : World} (h : StE H s A B) : B.os = A.os ∧ B.tape = A.tape ∧ B.output = A.output ∧ A.heap.size ≤ B.heap.size := by
  cases s with
  | nil => exact ⟨Below.os h, Below.tape h, Below.output h, Below.size h⟩
  | cons x l => exact ⟨h.2.os, h.2.tape, h.2.output, h.2.size⟩
theorem KpE.trans {W0 : World} {x : EX} {A B C : World} (h : KpE W0 x A B) (k : KpE W0 x B C) : KpE W0 x A C := ⟨h.below.trans k.below, k.row.trans h.row⟩
theorem KpE.put {W0 : World} {x : EX} (A : World) {l : Nat} (o : Obj) (h : W0.heap.size ≤ l) (hx : x.g ≠ l) : KpE W0 x A (A.putObj l o) := ⟨below_put A o h, World.putObj_heap_other hx⟩
theorem PrE.put {W0 : World} {H : Nat} {L : List In} {lo : List Bool} {R : Nat} {pre : List EX} {x : EX} {W : World} {l : Nat} (o : Obj) (h : PrE W0 H L lo R pre x W) (hl : W0.heap.size ≤ l) (hH : l < H) : PrE W0 H L lo R pre x (W.putObj l o) :=
  ⟨h.len, h.i, h.g, h.row.of_block (World.putObj_heap_other (by have := h.g; omega)), h.same, h.below.trans (below_put W o hl)⟩
/-- between two rounds: one box alone has turned -/
structure IE (w4 : World) (nb : Nat) (z : Int) (W : World) : Prop where
  but : But nb w4 W
  cell : W.cell? ⟨nb, 0, none⟩ = some (.int .i64 z)
  frz : W.frozen? ⟨nb, 0, none⟩ = false
theorem IE.keep {w4 W W' : World} {nb : Nat} {z : Int} (h : IE w4 nb z W) (hnb : nb < w4.heap.size) (hr : W'.os = W.os ∧ W'.tape = W.tape ∧ W'.output = W.output ∧ W.heap.size ≤ W'.heap.size) (hk : ∀ k, k < w4.heap.size → W'.heap[k]? = W.heap[k]?) : IE w4 nb z W' :=
  ⟨⟨hr.1.trans h.but.os, hr.2.1.trans h.but.tape, hr.2.2.1.trans h.but.output, Nat.le_trans h.but.size hr.2.2.2, fun k hk1 hk2 => (hk k hk1).trans (h.but.block k hk1 hk2)⟩,
    (World.cell?_of_block (hk nb hnb)).trans h.cell, (World.frozen?_of_block (hk nb hnb)).trans h.frz⟩
theorem IE.put {w4 W : World} {nb : Nat} {z : Int} (h : IE w4 nb z W) (hnb : nb < w4.heap.size) {l : Nat} (o : Obj) (hl : w4.heap.size ≤ l) : IE w4 nb z (W.putObj l o) :=
  h.keep hnb ⟨rfl, rfl, rfl, by simp⟩ fun k hk => World.putObj_heap_other (by omega)
theorem IE.st {w4 W W' : World} {nb H : Nat} {z : Int} {s : List EX} (h : IE w4 nb z W) (hnb : nb < w4.heap.size) (hH : w4.heap.size ≤ H) (hs : StE H s W W') : IE w4 nb z W' :=
  h.keep hnb hs.rest fun k hk => hs.blocks (by omega) (Nat.lt_of_lt_of_le hk h.but.size)
theorem IE.below {w4 W W' : World} {nb : Nat} {z : Int} (h : IE w4 nb z W) (hnb : nb < w4.heap.size) (hb : Below W.heap.size W W') : IE w4 nb z W' :=
  h.keep hnb ⟨hb.os, hb.tape, hb.output, hb.size⟩ fun k hk => hb.block k (Nat.lt_of_lt_of_le hk h.but.size)
theorem IE.set {w4 W : World} {nb : Nat} {z : Int} (h : IE w4 nb z W) (y : Int) : IE w4 nb y (W.setCell ⟨nb, 0, none⟩ (.int .i64 y)) :=
  ⟨h.but.trans (But.setCell nb 0 W _), World.cell?_setCell_same' _ _ _ (by rw [h.cell]; rfl), by rw [World.frozen?_setCell]; exact h.frz⟩
theorem BxE.but {w w4 W : World} {k : Int} {p : Pr} {nm : ByteArray} {vo vb : Value} {r : Bool} {nb : Nat} (h : BxE w k p nm vo vb r w4) (hb : But nb w4 W) (hn : w.heap.size + 1 + 1 < nb) : BxE w k p nm vo vb r W := by
  have hz := h.size
  exact ⟨(hb.block _ (by omega) (by omega)).trans h.b0, (hb.block _ (by omega) (by omega)).trans h.b1, (hb.block _ (by omega) (by omega)).trans h.b2, h.below.trans (hb.toBelow (by omega) (by omega))⟩
theorem flowEach_in (p : Pr) (V : Value) (k : Nat) (w : World) (hreg : I64 p.regs) (hP : PrV w V p) (hf : fewP p = true) (hk : k < p.blks.length) :
    Calls Try.prog 10 #[V, .int .i64 (k : Int)] w fun e w' => e = .returned (.bool true) ∧ Below w.heap.size w w' := by
  obtain ⟨f1, f2, f3⟩ := fewP_yes hf
  have EF : Hid (∀ w', Ext w w' → Calls Try.prog 43 #[V] w' fun e w'' => e = .returned (.bool true) ∧ Below w'.heap.size w' w'') := fun w' he => by rw [← hf]; exact fewp_c p V _ (hP.ext he)
  have EL : Hid (∀ w', Ext w w' → Calls Try.prog 45 #[V] w' (LivePost p w')) := fun w' he => live_c p V w' (hP.ext he) (by omega) (fun n hn => ⟨by have := (f3 n hn).1; omega, fun k hk => by have := (f3 n hn).2 k hk; omega⟩) (by omega) hreg
  have ER : Hid (∀ (k0 : Nat) (r : Int) w', Ext w w' → k0 ≤ (p.blks.getD k default).ins.length → Calls Try.prog 47 #[V, .int .i64 (k : Int), .int .i64 (k0 : Int), .int .i64 r] w' fun e w'' => e = .returned (.bool (liveP p k k0 r)) ∧ Below w'.heap.size w' w'') :=
    fun k0 r w' he hn => rlive_c p V k k0 r w' (hP.ext he) (by omega) (fun n hn => by have := (f3 n hn).1; omega) (fun n hn k hk => by have := (f3 n hn).2 k hk; omega) hk hn
  have HAR : Hid (∀ j, j < (p.blks.getD k default).ins.length → ((p.blks.getD k default).ins.getD j default).args.length ≤ 1000) := fun j hj => by have := (f3 k hk).2 j hj; omega
  have hL60 := (f3 k hk).1
  clear f3 hf
  obtain ⟨nm, vo, vb, rfl, -, hvb⟩ := hP
  have hvb' := hvb
  obtain ⟨a, c, rfl, hc1, hc2, -⟩ := hvb'
  unfold maxLen at hc2
  obtain ⟨bb, ob, vi, rfl, hvi, c0', -⟩ := (RdBks.at hvb).2 k hk
  have HVB := Lib.hid hvb
  have C0 := Lib.hid c0'
  have hvi' := hvi
  obtain ⟨ai, ci, rfl, hi1, hi2, -⟩ := hvi'
  unfold maxLen at hi2
  clear hvb hvi c0'
  refine callsIn_wide.1 (callsIn_of_wp_marks (n := 6) Try.func10 rfl trivial ?_ rfl)
  simp only [Try.ntmps10, List.size_toArray, List.length_cons, List.length_nil, Nat.reduceAdd, Nat.reduceSub, Array.replicate_succ, Array.replicate_zero, List.push_toArray, List.append_toArray, List.nil_append, List.cons_append]
  refine wpIn_wide.2 ?_
  obtain ⟨W0, hW0⟩ : ∃ W0, W0 = (((w.alloc (.cells #[.string nm, .bool p.void, .int .i64 p.params, .int .i64 p.regs, vo, .slice (some ⟨bb, ob, none⟩) p.blks.length c] 32)).alloc (.cells #[.int .i64 (k : Int)] 3)).alloc (.cells #[.bool false] 4)) := ⟨_, rfl⟩
  have BX : Hid (BxE w (k : Int) p nm vo (.slice (some ⟨bb, ob, none⟩) p.blks.length c) false W0) := by rw [hW0]; exact BxE.new _ _ _ _ _ _
  have HW0 := Lib.hid hW0
  clear hW0
  go_wp2_with fail
  rw [← HW0.out]
  refine (EF.out W0 (Ext.below BX.out.below)).mono ?_
  rintro e w1 ⟨rfl, hb1⟩
  have BX := Lib.hid (BX.out.grown hb1)
  clear hb1 HW0
  have x0 := cell_of_heap BX.out.b0 0
  have x1 := cell_of_heap BX.out.b0 1
  have x2 := cell_of_heap BX.out.b0 2
  have x3 := cell_of_heap BX.out.b0 3
  have x4 := cell_of_heap BX.out.b0 4
  have x5 := cell_of_heap BX.out.b0 5
  have yn := cell_of_heap BX.out.b1 0
  have yr := cell_of_heap BX.out.b2 0
  have fr := frozen_of_heap BX.out.b2 0
  simp only [List.getElem?_toArray, List.getElem?_cons_zero, List.getElem?_cons_succ] at x0 x1 x2 x3 x4 x5 yn yr
  go_wp2_with fail
  refine (EL.out _ (Ext.below BX.out.below)).mono ?_
  rintro e w2 ⟨kk, vi, vt, gi, go, rfl, hgr, M⟩
  have BX := Lib.hid (BX.out.grown M.below)
  have HL : Hid (∀ r : Nat, r < regsN p → ((lvN p kk).lo.getD k []).getD r false = liveP p k (p.blks.getD k default).ins.length r) := fun r hr => (lv_live hgr hk hr).2
  obtain ⟨tj, co, rfl, ho1, ho2, hto⟩ := M.atO (by omega : 0 < p.blks.length)
  unfold maxLen at ho2
  have cO := hto k hk
  have HRO := Lib.hid (M.rowO k hk)
  clear hgr M EL EF hto
  clear x0 x1 x2 x3 x4 x5 yn yr fr
  have x0 := cell_of_heap BX.out.b0 0
  have x1 := cell_of_heap BX.out.b0 1
  have x2 := cell_of_heap BX.out.b0 2
  have x3 := cell_of_heap BX.out.b0 3
  have x4 := cell_of_heap BX.out.b0 4
  have x5 := cell_of_heap BX.out.b0 5
  have yn := cell_of_heap BX.out.b1 0
  have yr := cell_of_heap BX.out.b2 0
  have fr := frozen_of_heap BX.out.b2 0
  simp only [List.getElem?_toArray, List.getElem?_cons_zero, List.getElem?_cons_succ] at x0 x1 x2 x3 x4 x5 yn yr
  unfold rowV at cO
  have hlen : ((lvN p kk).lo.getD k []).length = regsN p := HRO.out.cellAt.1.symm
  generalize go k = g2 at *
  generalize (lvN p kk).lo.getD k [] = lo at *
  have HV2 : Hid (∀ r : Nat, r < regsN p → ∀ j, (backK lo ((p.blks.getD k default).ins.drop j)).getD r false = liveP p k j r) := fun r hr j => live_at (p := p) (n := k) (by rw [hlen]; exact HL.out) j (by rw [hlen]; exact hr)
  have EE : Hid (∀ (W1 : World) (l : Nat) (J Jx : List EX → World → Prop), Below w.heap.size w W1 → RowB W1 g2 (regsN p) (regsN p) lo → ∀ bp bn bo : Nat, W1.cell? ⟨bp, 5, none⟩ = some (.slice (some ⟨bb, ob, none⟩) p.blks.length c) → W1.cell? ⟨bn, 0, none⟩ = some (.int .i64 (k : Int)) → W1.cell? ⟨bo, 0, none⟩ = some (.slice (some ⟨g2, 0, none⟩) (regsN p) (regsN p)) →
      (∀ s A B, J s A → StE W1.heap.size s A B → J s B) →
      (∀ pre x W, J pre W → PrE w W1.heap.size (p.blks.getD k default).ins lo (regsN p) pre x W → YieldAt Fence.wide 4 Try.prog l (encE (regsN p) x) W fun e W' => (e = .returned (.bool true) ∧ J (pre ++ [x]) W' ∧ KpE w x W W') ∨ (e = .returned (.bool false) ∧ Jx (pre ++ [x]) W')) →
      J [] W1 → CallsIn Fence.wide 5 Try.prog 91 #[.func (.yield l) #[] #[], .pointer (some ⟨bn, 0, none⟩), .pointer (some ⟨bp, 0, none⟩), .pointer (some ⟨bo, 0, none⟩)] W1 fun e W' =>
        (∃ v, e = .returned v) ∧ ((∃ xs, xs.length = (p.blks.getD k default).ins.length ∧ J xs W') ∨ ∃ pre, Jx pre W')) :=
    fun W1 l J Jx hb hr bp bn bo y5 yn yo hJ hY h0 => each1_c p k lo (regsN p) (regsN p) g2 bp bn bo 5 l _ w W1 HVB.out hk HAR.out (by omega) (by rw [hlen]; unfold regsN; omega) (by omega) hb y5 yn yo hr J Jx hJ hY h0
  clear HL HVB HAR
  have c0 := Ext.below BX.out.below _ _ C0.out
  generalize (p.blks.getD k default).ins = L at *
  go_wp2_with fail
  have hz2 := BX.out.size
  obtain ⟨W3, hW3⟩ : ∃ W3, W3 = (w2.alloc (.cells #[.int .i64 ((L.length : Int) - 1)] 3)).drew := ⟨_, rfl⟩
  have HN3 : Hid (W3.heap[w2.heap.size]? = some (.cells #[.int .i64 ((L.length : Int) - 1)] 3)) := by rw [hW3]; exact heap_alloc_new w2 _
  have HB3 : Hid (Below w2.heap.size w2 W3) := by rw [hW3]; exact (below_alloc w2 _).drew
  have hz3 : w2.heap.size + 1 ≤ W3.heap.size := by rw [hW3]; simp [World.drew]
  have q1 : w.heap.size < w2.heap.size := by omega
  have q2 : w.heap.size + 1 < w2.heap.size := by omega
  refine wp_region_game (fun b => b < w2.heap.size) (by kernel_rfl) ?_
  show wpE _ _ _ _ _ _ _ (World.drew _)
  rw [← hW3]
  clear hW3
  have htl : tj < w2.heap.size := World.block_lt_of_cell? w2 _ cO
  have cO := (HB3.out.cell (p := ⟨tj, k, none⟩) htl).trans cO
  clear x0 x1 x2 x3 x4 x5 yn yr fr
  have BX := Lib.hid (BX.out.grown HB3.out)
  clear c0
  have x0 := cell_of_heap BX.out.b0 0
  have x1 := cell_of_heap BX.out.b0 1
  have x2 := cell_of_heap BX.out.b0 2
  have x3 := cell_of_heap BX.out.b0 3
  have x4 := cell_of_heap BX.out.b0 4
  have x5 := cell_of_heap BX.out.b0 5
  have yn := cell_of_heap BX.out.b1 0
  have yr := cell_of_heap BX.out.b2 0
  have fr := frozen_of_heap BX.out.b2 0
  simp only [List.getElem?_toArray, List.getElem?_cons_zero, List.getElem?_cons_succ] at x0 x1 x2 x3 x4 x5 yn yr
  have hk0 : (0 : Int) ≤ (k : Int) := by omega
  refine E_mob2s [0, 1, 2, 3, 4, 5] _ _ _ _ (by kernel_rfl) ?_
  simp only [List.map_cons, List.map_nil, List.getElem?_toArray, List.getElem?_cons_succ, List.getElem?_cons_zero, Option.getD_some, List.size_toArray, List.length_cons, List.length_nil, Nat.reduceAdd, Nat.reduceSub]
  repeat (go_big_quiet_step (fail))
  refine wpQuiet_nil ?_
  refine E_loud1 6 _ rfl (by kernel_rfl) ?_
  simp only [List.getElem_toArray, List.getElem_cons_succ, List.getElem_cons_zero]
  go_wp2_with fail
  refine (each_c p nm vo _ _ _ _ _ _).mono ?_
  rintro e w4 ⟨rfl, hw4⟩
  have BN : Hid (BnE W3 (k : Int) p nm vo (.slice (some ⟨bb, ob, none⟩) p.blks.length c) (.slice (some ⟨g2, 0, none⟩) (regsN p) (regsN p)) w4) := by rw [hw4]; exact BnE.new _ _ _ _ _ _ _
  clear hw4
  go_wp2_with fail
  refine ⟨keep_below BN.out.below (fun b hb => Nat.lt_of_lt_of_le (Nat.lt_succ_of_lt hb) hz3), ?_⟩
  refine E_mob2s [7] _ _ _ _ (by kernel_rfl) ?_
  simp only [List.map_cons, List.map_nil, List.getElem?_toArray, List.getElem?_cons_succ, List.getElem?_cons_zero, Option.getD_some, List.size_toArray, List.length_cons, List.length_nil, Nat.reduceAdd, Nat.reduceSub]
  repeat (go_big_quiet_step (fail))
  refine wpQuiet_nil ?_
  refine E_done (by kernel_rfl) ?_ _
  have BX := Lib.hid (BX.out.grown BN.out.below)
  have HN4 : Hid (w4.heap[w2.heap.size]? = some (.cells #[.int .i64 ((L.length : Int) - 1)] 3)) := (BN.out.below.block _ hz3).trans HN3.out
  have HR4 : Hid (RowB w4 g2 (regsN p) (regsN p) lo) := (HRO.out.below HB3.out).below BN.out.below
  have hfn := eql_seq
  clear x0 x1 x2 x3 x4 x5 yn yr fr
  clear cO HRO HN3
  have hz4 : W3.heap.size ≤ w4.heap.size := BN.out.below.size
  go_wp2_with fail
  clear hfn
  have g5 := cell_of_heap BN.out.b0 5
  have gn := cell_of_heap BN.out.b1 0
  have go := cell_of_heap BN.out.b2 0
  simp only [List.getElem?_toArray, List.getElem?_cons_zero, List.getElem?_cons_succ] at g5 gn go
  have hnb : w2.heap.size < w4.heap.size := by omega
  have HI0 : Hid (IE w4 w2.heap.size ((L.length : Int) - 1) w4) := ⟨But.refl _ _, cell_of_heap HN4.out 0, frozen_of_heap HN4.out 0⟩
  have hw4 : w.heap.size ≤ w4.heap.size := by omega
  have EE2 := Lib.hid (fun (r : Loop) (J Jx : List EX → World → Prop) hJ hY h0 => EE.out (loopW w4 r) (w4.heap.size + 1) J Jx (BX.out.below.trans ((loopW_below w4 r).mono hw4)) (HR4.out.below (loopW_below w4 r)) W3.heap.size (W3.heap.size + 1) (W3.heap.size + 2)
    ((Below.cell (loopW_below w4 r) (World.block_lt_of_cell? w4 _ g5)).trans g5) ((Below.cell (loopW_below w4 r) (World.block_lt_of_cell? w4 _ gn)).trans gn) ((Below.cell (loopW_below w4 r) (World.block_lt_of_cell? w4 _ go)).trans go) hJ hY h0)
  simp only [loopW_size] at EE2
  clear g5 gn go EE BN HR4 HN4
  refine (wpIn_wide (n := 6)).1 ?_
  refine wp_rangeOver (n := 6) (gf := 91) rfl (enters_of Try.func91 (by kernel_rfl) rfl) (encE (regsN p)) (fun _ => rfl) (StE (w4.heap.size + 1 + 1)) (KpE w) (PrE w (w4.heap.size + 1 + 1) L lo (regsN p)) (fun xs => xs.length = L.length)
    (fun s A B h b hb hA => h.blocks (by omega) hA) (fun _ _ _ _ h k => h.trans k) (fun pre x W o h A => KpE.put A o (by omega) (by have := h.g; omega)) (fun pre x W o h => h.put o (by omega) (by omega))
    (fun r J Jx hJ hY h0 => EE2.out r J Jx hJ hY h0)
    (fun pre W => IE w4 w2.heap.size ((L.length : Int) - 1 - (pre.length : Int)) W) (fun _ _ _ => False) (fun s W o h => h.put hnb o (by omega)) (fun _ _ _ _ h => h) (fun s A B h hs => h.st hnb (by omega) hs)
    (fun r => by have := HI0.out.below hnb (loopW_below w4 r); simpa using this) ?_ ?assign ?body ?done (fun _ _ _ h => h.elim)
  case assign =>
    intro l x W K hK
    dsimp only [encE]
    gi_wp2
    exact hK
  case body =>
    intro l pre x W hi hpr
    clear HI0 EE2
    have hz9 : (L.length : Int) - 1 - (pre.length : Int) = (x.i : Int) := by have := hpr.i; have := hpr.len; omega
    have hnx : (x.i : Int) - 1 = (L.length : Int) - 1 - ((pre ++ [x]).length : Int) := by simp; omega
    have hx60 : x.i < L.length := by have := hpr.i; have := hpr.len; omega
    rw [hz9] at hi
    have HW := Lib.hid hi
    have HP := Lib.hid hpr
    have HNX := Lib.hid hnx
    clear hi hpr hnx hz9
    have BX := Lib.hid (BX.out.but HW.out.but (by omega))
    have hq1 := HW.out.cell
    have hq2 := HW.out.frz
    have x0 := cell_of_heap BX.out.b0 0
    have x1 := cell_of_heap BX.out.b0 1
    have x2 := cell_of_heap BX.out.b0 2
    have x3 := cell_of_heap BX.out.b0 3
    have x4 := cell_of_heap BX.out.b0 4
    have x5 := cell_of_heap BX.out.b0 5
    have yn := cell_of_heap BX.out.b1 0
    have yr := cell_of_heap BX.out.b2 0
    have fr := frozen_of_heap BX.out.b2 0
    simp only [List.getElem?_toArray, List.getElem?_cons_zero, List.getElem?_cons_succ] at x0 x1 x2 x3 x4 x5 yn yr
    have hbne := bne_self_eq_false (a := (x.i : Int))
    have hxg : x.g < W.heap.size := HP.out.row.cellAt.2.2.2.2.2.2
    have hxh := HP.out.g
    have ERx : Hid (∀ (r : Int) (w' : World), Ext w w' → Calls Try.prog 47 #[.agg #[.string nm, .bool p.void, .int .i64 p.params, .int .i64 p.regs, vo, .slice (some ⟨bb, ob, none⟩) p.blks.length c], .int .i64 (k : Int), .int .i64 ((x.i : Int) + 1), .int .i64 r] w' fun e w'' => e = .returned (.bool (liveP p k (x.i + 1) r)) ∧ Below w'.heap.size w' w'') := fun r w' he => by
      have := ER.out (x.i + 1) r w' he (by omega)
      simpa using this
    have HRW : Hid (∀ r : Nat, r < regsN p → W.cell? ⟨x.g, r, none⟩ = some (.bool (liveP p k (x.i + 1) (r : Int)))) := fun r hr => by
      have h := HP.out.row.cellAt.2.2.2.2.1 r hr
      rw [HV2.out r hr] at h
      exact h
    have hwW : w.heap.size + 1 + 1 + 1 ≤ W.heap.size := BX.out.size
    have q1 : w.heap.size < W.heap.size := by omega
    have q2 : w.heap.size + 1 < W.heap.size := by omega
    by_cases hr0 : 0 ≤ p.regs
    · rw [show p.regs = (regsN p : Int) by unfold regsN; omega] at x3
      have enr := bne_self_eq_false (a := ((regsN p : Nat) : Int))
      have hRR : Hid (regsN p ≤ 30) := by show _ ≤ _; unfold regsN; omega
      gi_wp2
      clear hbne enr hq1 hq2
      clear x0 x1 x2 x3 x4 x5 yn yr fr
      gi_loopw [13] (fun i wr => ∃ r : Nat, r ≤ regsN p ∧ i = .int .i64 (r : Int) ∧ Hid (Below W.heap.size W wr)) (fun i _ => regsN p - (intOf i).toNat)
      case atStart => exact ⟨0, Nat.zero_le _, rfl, Below.refl _ _⟩
      case round =>
        obtain ⟨r, hr, rfl, hB⟩ := hrel
        by_cases hlr : r < regsN p
        · gi_wp2
          obtain ⟨W5, hW5⟩ : ∃ W5, W5 = wr.drew := ⟨_, rfl⟩
          have hB5 : Hid (Below W.heap.size W W5) := by rw [hW5]; exact hB.out.drew
          refine wpR_region_game (fun b => b < W.heap.size) (by kernel_rfl) (by kernel_rfl) ?_
          show wpE _ _ _ _ _ _ _ wr.drew
          rw [← hW5]
          clear hW5 hB
          have BX := Lib.hid (BX.out.grown hB5.out)
          have r1 := (hB5.out.cell (p := ⟨x.g, r, none⟩) hxg).trans (HRW.out r hlr)
          have hbx := bne_self_eq_false (a := liveP p k (x.i + 1) (r : Int))
          have x0 := cell_of_heap BX.out.b0 0
          have x1 := cell_of_heap BX.out.b0 1
          have x2 := cell_of_heap BX.out.b0 2
          have x3 := cell_of_heap BX.out.b0 3
          have x4 := cell_of_heap BX.out.b0 4
          have x5 := cell_of_heap BX.out.b0 5
          have yn := cell_of_heap BX.out.b1 0
          have yr := cell_of_heap BX.out.b2 0
          have fr := frozen_of_heap BX.out.b2 0
          simp only [List.getElem?_toArray, List.getElem?_cons_zero, List.getElem?_cons_succ] at x0 x1 x2 x3 x4 x5 yn yr
          refine E_mob2s [0, 1, 2, 3, 4, 5, 6, 7, 8] _ _ _ _ (by kernel_rfl) ?_
          simp only [List.map_cons, List.map_nil, List.getElem?_toArray, List.getElem?_cons_succ, List.getElem?_cons_zero, Option.getD_some, List.size_toArray, List.length_cons, List.length_nil, Nat.reduceAdd, Nat.reduceSub]
          repeat (go_big_quiet_step (fail))
          refine wpQuiet_nil ?_
          refine E_loud1 9 _ rfl (by kernel_rfl) ?_
          simp only [List.getElem_toArray, List.getElem_cons_succ, List.getElem_cons_zero]
          go_wp2_with fail
          refine (ERx.out (r : Int) W5 (Ext.below BX.out.below)).mono ?_
          rintro e w7 ⟨rfl, hb7⟩
          have HB7 : Hid (Below W.heap.size W w7) := hB5.out.trans (hb7.mono hB5.out.size)
          have HK7 : Hid (Keep (fun b => b < W.heap.size) W5 w7) := keep_below hb7 (fun b hb => Nat.lt_of_lt_of_le hb hB5.out.size)
          clear hb7 hB5 r1
          clear x0 x1 x2 x3 x4 x5 yn yr fr
          go_wp2_with fail
          refine ⟨HK7.out, ?_⟩
          refine E_mob2s [10] _ _ _ _ (by kernel_rfl) ?_
          simp only [List.map_cons, List.map_nil, List.getElem?_toArray, List.getElem?_cons_succ, List.getElem?_cons_zero, Option.getD_some, List.size_toArray, List.length_cons, List.length_nil, Nat.reduceAdd, Nat.reduceSub]
          repeat (go_big_quiet_step (fail))
          refine wpQuiet_nil ?_
          refine E_done (by kernel_rfl) ?_ _
          clear HK7 hbx
          have hr30 : r < 30 := Nat.lt_of_lt_of_le hlr hRR.out
          gi_wp2
          go_roundw
          case rel => exact ⟨r + 1, by omega, by go_num, HB7⟩
          case measure => simp [intOf]; omega
        · have I8 := Lib.hid (HW.out.below hnb hB.out)
          have hq1 := I8.out.cell
          have hq2 := I8.out.frz
          gi_wp2
          have I9 := I8.out.set ((x.i : Int) - 1)
          rw [HNX.out] at I9
          have hx1 : w4.heap.size < W.heap.size := by omega
          have hx2 : w4.heap.size + 1 < W.heap.size := by omega
          rw [← HNX.out] at I9
          refine ⟨⟨(Below.heap_setCell _ _ _ _ (by simp only; omega)).trans (hB.out.block _ hx1), (Below.heap_setCell _ _ _ _ (by simp only; omega)).trans (hB.out.block _ hx2)⟩, ⟨(hB.out.mono (by omega)).setCell (by simp only; omega) _, (Below.heap_setCell _ _ _ _ (by simp only; omega)).trans (hB.out.block _ hxg)⟩, ?_⟩
          show IE w4 w2.heap.size ((L.length : Int) - 1 - ((pre ++ [x]).length : Int)) _
          rw [← HNX.out]
          exact I9
    · have hRz : regsN p = 0 := by unfold regsN; omega
      have hneg : p.regs < 0 := by omega
      have hRR : Hid (regsN p ≤ 30) := by show _ ≤ _; omega
      clear hRR
      generalize regsN p = R at *
      subst hRz
      gi_wp2
      clear hbne hq1 hq2
      clear x0 x1 x2 x3 x4 x5 yn yr fr
      gi_loopw [13] (fun i wr => i = .int .i64 0 ∧ Hid (Below W.heap.size W wr)) (fun i _ => 0)
      case atStart => exact ⟨rfl, Below.refl _ _⟩
      case round =>
        obtain ⟨rfl, hB⟩ := hrel
        have I8 := Lib.hid (HW.out.below hnb hB.out)
        have hq1 := I8.out.cell
        have hq2 := I8.out.frz
        gi_wp2
        have I9 := I8.out.set ((x.i : Int) - 1)
        rw [HNX.out] at I9
        have hx1 : w4.heap.size < W.heap.size := by omega
        have hx2 : w4.heap.size + 1 < W.heap.size := by omega
        rw [← HNX.out] at I9
        refine ⟨⟨(Below.heap_setCell _ _ _ _ (by simp only; omega)).trans (hB.out.block _ hx1), (Below.heap_setCell _ _ _ _ (by simp only; omega)).trans (hB.out.block _ hx2)⟩, ⟨(hB.out.mono (by omega)).setCell (by simp only; omega) _, (Below.heap_setCell _ _ _ _ (by simp only; omega)).trans (hB.out.block _ hxg)⟩, ?_⟩
        show IE w4 w2.heap.size ((L.length : Int) - 1 - ((pre ++ [x]).length : Int)) _
        rw [← HNX.out]
        exact I9
  case done =>
    rintro xs W hS hi hK
    have hz9 : (L.length : Int) - 1 - (xs.length : Int) = -1 := by omega
    rw [hz9] at hi
    have BX := Lib.hid (BX.out.but hi.but (by omega))
    have HI := Lib.hid hi
    have HK := Lib.hid hK
    have hD := (Array.getElem?_eq_some_iff.1 hK).1
    clear hK hi hz9 HI0 EE2 ER HV2
    dsimp only
    have hz5 := (show w.heap.size + 1 + 1 + 1 ≤ w4.heap.size by omega)
    go_wp2_with (go_at_call 44; refine (awake16_c _).mono ?_; rintro e w9 ⟨rfl, hb9⟩; have HK9 := Lib.hid ((hb9.block _ hD).trans HK.out); have BX9 := Lib.hid (BX.out.grown hb9); have I9 := HI.out.below hnb hb9; have hq1 := I9.cell; have hq2 := I9.frz; have yr := cell_of_heap BX9.out.b2 0; have fr := frozen_of_heap BX9.out.b2 0; simp only [List.getElem?_toArray, List.getElem?_cons_zero] at yr; clear hb9 I9)
    have hne : w4.heap.size ≠ w.heap.size + 1 + 1 := by omega
    have HK8 : Hid ((w9.setCell ⟨w.heap.size + 1 + 1, 0, none⟩ (.bool true)).heap[w4.heap.size]? = some (.deferred (some []))) := (Below.heap_setCell _ _ _ _ hne).trans HK9.out
    have yq : ((w9.setCell ⟨w.heap.size + 1 + 1, 0, none⟩ (.bool true)).putObj w4.heap.size (.deferred none)).cell? ⟨w.heap.size + 1 + 1, 0, none⟩ = some (.bool true) := (World.cell?_of_block (World.putObj_heap_other (Ne.symm hne))).trans (World.cell?_setCell_same' _ _ _ (by rw [yr]; rfl))
    refine leavesM_one rfl HK8.out (v := .bool true) (by simp [results, Try.results10, go_sem, yq]) ?_
    exact ⟨rfl, (BX9.out.answer _).trans (below_put _ _ (by omega))⟩
theorem FlowEach_w (p : Pr) (V : Value) (k : Int) (w : World) (hok : PrOk p) (hP : PrV w V p) :
    Calls Try.prog 10 #[V, .int .i64 k] w fun e w' => e = .returned (.bool true) ∧ Below w.heap.size w w' := by
  cases hf : fewP p
  · exact flowEach_few p V k w hP hf
  · by_cases h : k < 0 ∨ (p.blks.length : Int) ≤ k
    · exact flowEach_out p V k w hok.regs hP hf h
    · obtain ⟨n, rfl⟩ := Int.eq_ofNat_of_zero_le (by omega : 0 ≤ k)
      exact flowEach_in p V n w hok.regs hP hf (by omega)
end Go.Proofs.Ytnnhobbabcfogaa
