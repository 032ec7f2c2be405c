/-
  Contracts of few and awake of the statements about flow.
-/
import Derived.Test.YtnnhobbabcfogaaH3
import Derived.Test.YtnnhobbabcfogaaG6
import Derived.Test.YtnnhobbabcfogaaH1
import Derived.ChangeKeysEq
set_option linter.all false
namespace Go.Proofs.Ytnnhobbabcfogaa
open Go.ChangeShapes Go.WideShapes Go.ChangeAt Go.RowKit
set_option maxHeartbeats 2000000
set_option maxRecDepth 20000

def fewP (p : Pr) : Bool := decide (p.regs ≤ 30) && fewM ⟨[], [], [p], 0⟩
theorem RdSls.nil (w : World) : RdSls w (.slice none 0 0) [] := ⟨none, 0, rfl, Nat.le_refl _, by simp [maxLen], fun i hi => absurd hi (Nat.not_lt_zero i)⟩
theorem RdYs.nil (w : World) : RdYs w (.slice none 0 0) [] := ⟨none, 0, rfl, Nat.le_refl _, by simp [maxLen], fun i hi => absurd hi (Nat.not_lt_zero i)⟩
theorem RdIns.nil (w : World) : RdIns w (.slice none 0 0) [] := ⟨none, 0, rfl, Nat.le_refl _, by simp [maxLen], fun i hi => absurd hi (Nat.not_lt_zero i)⟩
/-- a row of one procedure -/
theorem RdPrs.one {w w0 : World} {nm : ByteArray} {vo vb : Value} {p : Pr} (he : Ext w w0) (ho : RdSls w vo p.objs) (hb : RdBks w vb p.blks) :
    RdPrs (w0.alloc (.cells #[.string nm, .bool p.void, .int .i64 p.params, .int .i64 p.regs, vo, vb] 32)) (.slice (some ⟨w0.heap.size, 0, none⟩) 1 1) [p] := by
  refine ⟨_, 1, rfl, Nat.le_refl _, by simp [maxLen], fun i hi => ?_⟩
  obtain rfl : i = 0 := by simpa using hi
  have hc := fun j => cell_of_heap (heap_alloc_new w0 (.cells #[.string nm, .bool p.void, .int .i64 p.params, .int .i64 p.regs, vo, vb] 32)) j
  have he' := he.trans (Ext.alloc w0 (.cells #[.string nm, .bool p.void, .int .i64 p.params, .int .i64 p.regs, vo, vb] 32))
  refine ⟨w0.heap.size, 0, rfl, ⟨nm, ?_⟩, ?_, ?_, ?_, ⟨vo, ?_, ho.ext he'⟩, ⟨vb, ?_, hb.ext he'⟩⟩
  · simpa using hc 0
  · simpa using hc 1
  · simpa using hc 2
  · simpa using hc 3
  · simpa using hc 4
  · simpa using hc 5
theorem fewp_c (p : Pr) (V : Value) (w : World) (hP : PrV w V p) :
    Calls Try.prog 43 #[V] w fun e w' => e = .returned (.bool (fewP p)) ∧ Below w.heap.size w w' := by
  obtain ⟨nm, vo, vb, rfl, ho, hb⟩ := hP
  have EF := Lib.hid (show Calls Try.prog 48 #[.agg #[.slice none 0 0, .slice none 0 0, .slice (some ⟨w.heap.size + 1, 0, none⟩) 1 1, .int .i64 0]] ((w.alloc (.cells #[.string nm, .bool p.void, .int .i64 p.params, .int .i64 p.regs, vo, vb] 32)).alloc (.cells #[.string nm, .bool p.void, .int .i64 p.params, .int .i64 p.regs, vo, vb] 32))
      fun e w' => e = .returned (.bool (fewM ⟨[], [], [p], 0⟩)) ∧ Below (w.heap.size + 2) ((w.alloc (.cells #[.string nm, .bool p.void, .int .i64 p.params, .int .i64 p.regs, vo, vb] 32)).alloc (.cells #[.string nm, .bool p.void, .int .i64 p.params, .int .i64 p.regs, vo, vb] 32)) w' by
    have := few_c ⟨[], [], [p], 0⟩ (.agg #[.slice none 0 0, .slice none 0 0, .slice (some ⟨w.heap.size + 1, 0, none⟩) 1 1, .int .i64 0]) ((w.alloc (.cells #[.string nm, .bool p.void, .int .i64 p.params, .int .i64 p.regs, vo, vb] 32)).alloc (.cells #[.string nm, .bool p.void, .int .i64 p.params, .int .i64 p.regs, vo, vb] 32))
      ⟨_, _, _, rfl, RdSls.nil _, RdYs.nil _, by have := RdPrs.one (nm := nm) (Ext.alloc w (.cells #[.string nm, .bool p.void, .int .i64 p.params, .int .i64 p.regs, vo, vb] 32)) ho hb; simpa using this⟩
    simpa using this)
  have HB : Hid (Below w.heap.size w ((w.alloc (.cells #[.string nm, .bool p.void, .int .i64 p.params, .int .i64 p.regs, vo, vb] 32)).alloc (.cells #[.string nm, .bool p.void, .int .i64 p.params, .int .i64 p.regs, vo, vb] 32))) := (below_alloc w _).alloc (by simp) _
  by_cases h : p.regs ≤ 30
  · have e1 : decide (p.regs ≤ 30) = true := decide_eq_true h
    have HF : Hid (fewP p = fewM ⟨[], [], [p], 0⟩) := by show _ = _; unfold fewP; rw [e1]; rfl
    go_enter Try.func43, Try.ntmps43
    go_wp2_with (go_at_call 48; refine EF.out.mono ?_; rintro e w1 ⟨rfl, hb1⟩; have hb1 := Lib.hid hb1)
    go_ret
    exact ⟨ret_b HF.out.symm, HB.out.trans (hb1.out.mono (by omega))⟩
  · have e1 : decide (p.regs ≤ 30) = false := decide_eq_false h
    have HF : Hid (fewP p = false) := by show _ = _; unfold fewP; rw [e1]; rfl
    clear EF
    go_enter Try.func43, Try.ntmps43
    go_wp2_with fail
    go_ret
    exact ⟨ret_b HF.out.symm, below_alloc _ _⟩

/-- the procedure of the example -/
def pA : Pr := ⟨false, 0, 1, [], [⟨[], 1, -1, 1, 0⟩, ⟨[], 2, 0, 2, 0⟩, ⟨[], 3, 0, 0, 0⟩]⟩
theorem keep_below {S : Nat → Prop} {w w' : World} (hb : Below w.heap.size w w') (h : ∀ b, S b → b < w.heap.size) : Keep S w w' := fun b o hs => hb.cell (p := ⟨b, o, none⟩) (h b hs)
theorem part_int (w : World) (xs : Array Value) (i : Nat) (x : Value) (h : xs[i]? = some x) : (part 3 xs i).run Try.prog w = .ok x w := by
  obtain ⟨i0, hi, hz0, hz1, hz2⟩ := info_parts info_int
  unfold part
  simp [hi, hz1, h]
theorem run_equalIn_pair (w : World) (a b c d : Int) : (Op.equalIn 10000 137 (.agg #[.int .i64 a, .int .i64 b]) (.agg #[.int .i64 c, .int .i64 d])).run Try.prog w = .ok (a == c && b == d) w := by
  obtain ⟨i0, hi, hz0, hz1, hz2⟩ := info_parts info_int
  have h1 : Try.prog.cellsOf 3 = 1 := by kernel_rfl
  rw [run_equalIn_array w 9999 _ _ (n := 2) Try.underlying137 hi, h1]
  have p0 : (part 3 #[.int .i64 a, .int .i64 b] 0).run Try.prog w = .ok (.int .i64 a) w := part_int w _ 0 _ rfl
  have p1 : (part 3 #[.int .i64 a, .int .i64 b] 1).run Try.prog w = .ok (.int .i64 b) w := part_int w _ 1 _ rfl
  have q0 : (part 3 #[.int .i64 c, .int .i64 d] 0).run Try.prog w = .ok (.int .i64 c) w := part_int w _ 0 _ rfl
  have q1 : (part 3 #[.int .i64 c, .int .i64 d] 1).run Try.prog w = .ok (.int .i64 d) w := part_int w _ 1 _ rfl
  have r0 : (Op.equalIn 9999 3 (.int .i64 a) (.int .i64 c)).run Try.prog w = .ok (a == c) w := run_equalIn_int w 9998 3 .i64 .i64 a c Try.underlying3
  have r1 : (Op.equalIn 9999 3 (.int .i64 b) (.int .i64 d)).run Try.prog w = .ok (b == d) w := run_equalIn_int w 9998 3 .i64 .i64 b d Try.underlying3
  simp only [show List.range 2 = [0, 1] from rfl, Op.eqItems, Sem.run_bind, show 0 * 1 = 0 from rfl, show 1 * 1 = 1 from rfl, p0, p1, q0, q1, r0, r1, Result.andThen_ok]
  cases hac : (a == c) <;> cases hbd : (b == d) <;> simp [Result.andThen, p1, q1, r1, hbd]
/-- a slice of pairs -/
def RdP (w : World) (v : Value) (l : List (Int × Int)) : Prop := Rows' w v 2 l.length fun i c => c 0 = some (.int .i64 (l.getD i (0, 0)).1) ∧ c 1 = some (.int .i64 (l.getD i (0, 0)).2)
theorem RdP.ext {w w' : World} {v : Value} {l : List (Int × Int)} (h : RdP w v l) (he : Ext w w') : RdP w' v l := Rows'.ext h he fun _ _ _ hs h => ⟨hs _ _ h.1, hs _ _ h.2⟩
theorem pairsV_at : ∀ (l : List (Int × Int)) (i : Nat), i < l.length → (pairsV l)[i * 2]? = some (.int .i64 (l.getD i (0, 0)).1) ∧ (pairsV l)[i * 2 + 1]? = some (.int .i64 (l.getD i (0, 0)).2)
  | [], i, h => absurd h (Nat.not_lt_zero i)
  | x :: l, 0, _ => ⟨rfl, rfl⟩
  | x :: l, i + 1, h => by
    have := pairsV_at l i (by simpa using h)
    simp only [pairsV, List.flatMap_cons, List.getD_cons_succ] at this ⊢
    rw [show (i + 1) * 2 = i * 2 + 2 by omega]
    exact this
theorem RdP.of {w : World} {base : Nat} {v : Value} {l : List (Int × Int)} (h : w.ownsRow base 137 2 v l.length (pairsV l)) : RdP w v l := by
  have h' := h
  rcases h' with ⟨hlen, ⟨rfl, h0⟩ | ⟨g, cap, cur, rfl, hb, hg, hn, hc, hcs, ht⟩⟩
  · rw [List.eq_nil_of_length_eq_zero h0]
    exact ⟨none, 0, rfl, Nat.le_refl _, by simp [maxLen], fun i hi => absurd hi (Nat.not_lt_zero i)⟩
  · refine ⟨_, _, rfl, hn, hc, fun i hi => ⟨g, 0, rfl, ?_, ?_⟩⟩
    · have := (h.cellAt (i * 2) (by omega)).trans (pairsV_at l i hi).1
      simpa using this
    · have := (h.cellAt (i * 2 + 1) (by omega)).trans (pairsV_at l i hi).2
      simpa [Nat.zero_add] using this
theorem pA_ord : (wkD pA).ord.reverse = [0, 1, 2] := by decide +kernel
theorem pA_back : (wkD pA).back = [(1, 0)] := by decide +kernel
theorem pA_live : liveP pA 0 0 0 = true := by decide +kernel
theorem pA_mem (w w' : World) (he : Ext (w.alloc (.cells #[.slice none 0 0, .int .i64 1, .int .i64 (-1), .int .i64 1, .int .i64 0, .slice none 0 0, .int .i64 2, .int .i64 0, .int .i64 2, .int .i64 0, .slice none 0 0, .int .i64 3, .int .i64 0, .int .i64 0, .int .i64 0] 48)) w') :
    PrV w' (.agg #[.string ⟨#[]⟩, .bool false, .int .i64 0, .int .i64 1, .slice none 0 0, .slice (some ⟨w.heap.size, 0, none⟩) 3 3]) pA := by
  refine ⟨_, _, _, rfl, RdSls.nil _, ?_⟩
  have hc := fun j => cell_of_heap (heap_alloc_new w (.cells #[.slice none 0 0, .int .i64 1, .int .i64 (-1), .int .i64 1, .int .i64 0, .slice none 0 0, .int .i64 2, .int .i64 0, .int .i64 2, .int .i64 0, .slice none 0 0, .int .i64 3, .int .i64 0, .int .i64 0, .int .i64 0] 48)) j
  refine ⟨_, 3, rfl, Nat.le_refl _, by simp [maxLen], fun i hi => ⟨w.heap.size, 0, rfl, ?_⟩⟩
  have hi3 : i < 3 := hi
  match i, hi3 with
  | 0, _ => exact ⟨⟨_, he _ _ ((hc 0).trans rfl), RdIns.nil _⟩, he _ _ ((hc 1).trans rfl), he _ _ ((hc 2).trans rfl), he _ _ ((hc 3).trans rfl), he _ _ ((hc 4).trans rfl)⟩
  | 1, _ => exact ⟨⟨_, he _ _ ((hc 5).trans rfl), RdIns.nil _⟩, he _ _ ((hc 6).trans rfl), he _ _ ((hc 7).trans rfl), he _ _ ((hc 8).trans rfl), he _ _ ((hc 9).trans rfl)⟩
  | 2, _ => exact ⟨⟨_, he _ _ ((hc 10).trans rfl), RdIns.nil _⟩, he _ _ ((hc 11).trans rfl), he _ _ ((hc 12).trans rfl), he _ _ ((hc 13).trans rfl), he _ _ ((hc 14).trans rfl)⟩
theorem awake16_c (w : World) :
    Calls Try.prog 44 #[] w fun e w' => e = .returned (.bool true) ∧ Below w.heap.size w w' := by
  have EP : Hid (∀ w', Ext (w.alloc (.cells #[.slice none 0 0, .int .i64 1, .int .i64 (-1), .int .i64 1, .int .i64 0, .slice none 0 0, .int .i64 2, .int .i64 0, .int .i64 2, .int .i64 0, .slice none 0 0, .int .i64 3, .int .i64 0, .int .i64 0, .int .i64 0] 48)) w' →
    PrV w' (.agg #[.string ⟨#[]⟩, .bool false, .int .i64 0, .int .i64 1, .slice none 0 0, .slice (some ⟨w.heap.size, 0, none⟩) 3 3]) pA) := fun w' he => pA_mem w w' he
  go_enter Try.func44, Try.ntmps44
  go_wp2_with fail
  obtain ⟨W0, hW0⟩ : ∃ W0, W0 = ((w.alloc (.cells #[.slice none 0 0, .int .i64 1, .int .i64 (-1), .int .i64 1, .int .i64 0, .slice none 0 0, .int .i64 2, .int .i64 0, .int .i64 2, .int .i64 0, .slice none 0 0, .int .i64 3, .int .i64 0, .int .i64 0, .int .i64 0] 48)).alloc (.cells #[.string ⟨#[]⟩, .bool false, .int .i64 0, .int .i64 1, .slice none 0 0, .slice (some ⟨w.heap.size, 0, none⟩) 3 3] 32)).drew := ⟨_, rfl⟩
  have hb0 : Hid (Below w.heap.size w W0) := by rw [hW0]; exact ((below_alloc _ _).alloc (by simp) _).drew
  have hbox : ∀ j : Nat, j < 6 → W0.cell? ⟨w.heap.size + 1, j, none⟩ = #[Value.string ⟨#[]⟩, .bool false, .int .i64 0, .int .i64 1, .slice none 0 0, .slice (some ⟨w.heap.size, 0, none⟩) 3 3][j]? := fun j _ => by
    rw [hW0]
    have := cell_of_heap (heap_alloc_new (w.alloc (.cells #[.slice none 0 0, .int .i64 1, .int .i64 (-1), .int .i64 1, .int .i64 0, .slice none 0 0, .int .i64 2, .int .i64 0, .int .i64 2, .int .i64 0, .slice none 0 0, .int .i64 3, .int .i64 0, .int .i64 0, .int .i64 0] 48)) (.cells #[.string ⟨#[]⟩, .bool false, .int .i64 0, .int .i64 1, .slice none 0 0, .slice (some ⟨w.heap.size, 0, none⟩) 3 3] 32)) j
    simpa using this
  have hz0 : W0.heap.size = w.heap.size + 2 := by rw [hW0]; simp [World.drew]
  have EP0 : Hid (∀ w', Ext W0 w' → PrV w' (.agg #[.string ⟨#[]⟩, .bool false, .int .i64 0, .int .i64 1, .slice none 0 0, .slice (some ⟨w.heap.size, 0, none⟩) 3 3]) pA) := fun w' he => EP.out w' (Ext.trans (by rw [hW0]; exact Ext.alloc _ _) he)
  clear EP
  refine wp_region_game (fun b => b = w.heap.size + 1) (by kernel_rfl) ?_
  show wpE _ _ _ _ _ _ _ (World.drew _)
  rw [← hW0]
  clear hW0
  have x0 := hbox 0 (by decide)
  have x1 := hbox 1 (by decide)
  have x2 := hbox 2 (by decide)
  have x3 := hbox 3 (by decide)
  have x4 := hbox 4 (by decide)
  have x5 := hbox 5 (by decide)
  simp at x0 x1 x2 x3 x4 x5
  refine E_mob 0 _ rfl (by kernel_rfl) ?_
  simp only [List.getElem_toArray, List.getElem_cons_succ, List.getElem_cons_zero]
  go_big_quiet_step (fail)
  refine wpQuiet_nil ?_
  refine E_mob 2 _ rfl (by kernel_rfl) ?_
  simp only [List.getElem_toArray, List.getElem_cons_succ, List.getElem_cons_zero]
  go_big_quiet_step (fail)
  refine wpQuiet_nil ?_
  refine E_loud1 1 _ rfl (by kernel_rfl) ?_
  simp only [List.getElem_toArray, List.getElem_cons_succ, List.getElem_cons_zero]
  go_wp2_with fail
  refine (order_c pA _ _ (EP0.out _ (Ext.refl _)) (by decide)).mono ?_
  rintro e w2 ⟨v2, rfl, ho2, hb2⟩
  rw [pA_ord] at ho2
  have HB2 := Lib.hid hb2
  have HO2 := Lib.hid ho2
  have y0 := (HB2.out.cell (p := ⟨w.heap.size + 1, 0, none⟩) (by simp only; omega)).trans x0
  have y1 := (HB2.out.cell (p := ⟨w.heap.size + 1, 1, none⟩) (by simp only; omega)).trans x1
  have y2 := (HB2.out.cell (p := ⟨w.heap.size + 1, 2, none⟩) (by simp only; omega)).trans x2
  have y3 := (HB2.out.cell (p := ⟨w.heap.size + 1, 3, none⟩) (by simp only; omega)).trans x3
  have y4 := (HB2.out.cell (p := ⟨w.heap.size + 1, 4, none⟩) (by simp only; omega)).trans x4
  have y5 := (HB2.out.cell (p := ⟨w.heap.size + 1, 5, none⟩) (by simp only; omega)).trans x5
  clear hb2 ho2
  go_wp2_with fail
  refine ⟨keep_below HB2.out (fun b hb => by rw [hb]; omega), ?_⟩
  refine E_loud1 3 _ rfl (by kernel_rfl) ?_
  simp only [List.getElem_toArray, List.getElem_cons_succ, List.getElem_cons_zero]
  go_wp2_with fail
  refine (back_c pA _ _ (EP0.out _ (Ext.below HB2.out)) (by decide)).mono ?_
  rintro e w3 ⟨v3, rfl, ho3, hb3⟩
  rw [pA_back] at ho3
  have HB3 := Lib.hid hb3
  have HO3 := Lib.hid ho3
  clear hb3 ho3
  go_wp2_with fail
  refine ⟨keep_below HB3.out (fun b hb => by rw [hb]; have := HB2.out.size; omega), ?_⟩
  refine E_mob 4 _ rfl (by kernel_rfl) ?_
  simp only [List.getElem_toArray, List.getElem_cons_succ, List.getElem_cons_zero]
  go_big_quiet_step (fail)
  refine wpQuiet_nil ?_
  refine E_mob 5 _ rfl (by kernel_rfl) ?_
  simp only [List.getElem_toArray, List.getElem_cons_succ, List.getElem_cons_zero]
  go_big_quiet_step (fail)
  refine wpQuiet_nil ?_
  refine E_done (by kernel_rfl) ?_ _
  clear x0 x1 x2 x3 x4 x5
  have HB3' : Hid (Below W0.heap.size W0 w3) := HB2.out.trans (HB3.out.mono HB2.out.size)
  have x0 := (HB3.out.cell (p := ⟨w.heap.size + 1, 0, none⟩) (by simp only; have := HB2.out.size; omega)).trans y0
  have x1 := (HB3.out.cell (p := ⟨w.heap.size + 1, 1, none⟩) (by simp only; have := HB2.out.size; omega)).trans y1
  have x2 := (HB3.out.cell (p := ⟨w.heap.size + 1, 2, none⟩) (by simp only; have := HB2.out.size; omega)).trans y2
  have x3 := (HB3.out.cell (p := ⟨w.heap.size + 1, 3, none⟩) (by simp only; have := HB2.out.size; omega)).trans y3
  have x4 := (HB3.out.cell (p := ⟨w.heap.size + 1, 4, none⟩) (by simp only; have := HB2.out.size; omega)).trans y4
  have x5 := (HB3.out.cell (p := ⟨w.heap.size + 1, 5, none⟩) (by simp only; have := HB2.out.size; omega)).trans y5
  clear y0 y1 y2 y3 y4 y5
  go_wp2_with fail
  refine (live_c pA _ _ (EP0.out _ (Ext.below HB3'.out)) (by decide) (fun n _ => by
    have h : ∀ n, (pA.blks.getD n default).ins = [] := fun n => by
      match n with
      | 0 => rfl
      | 1 => rfl
      | 2 => rfl
      | n + 3 => rfl
    rw [h]; exact ⟨Nat.zero_le _, fun k hk => absurd hk (Nat.not_lt_zero k)⟩) (by decide) (by unfold I64; decide)).mono ?_
  rintro e w4 ⟨kk, vi, vo, gi, go, rfl, hgr, M⟩
  have hl := (lv_live hgr (n := 0) (r := 0) (by decide) (by decide)).1
  rw [show ((0 : Nat) : Int) = 0 from rfl, pA_live] at hl
  have HL := Lib.hid hl
  have hM := Lib.hid M
  clear hl hgr M x0 x1 x2 x3 x4 x5
  obtain ⟨ti, ci, rfl, hti1, hti2, hti3⟩ := hM.out.atI (k := 0) (by decide)
  have hB4 := Lib.hid hM.out.below
  obtain ⟨ao, co, rfl, ho1, ho2, ho3⟩ := OwnI.rd HO2.out
  have hE2 : Hid (Ext w2 w4) := Ext.trans (Ext.below HB3.out) (Ext.below hB4.out)
  obtain ⟨bo, oo, rfl, z0⟩ := ho3 0 (by decide)
  obtain ⟨bo1, oo1, eo1, z1⟩ := ho3 1 (by decide)
  obtain ⟨bo2, oo2, eo2, z2⟩ := ho3 2 (by decide)
  simp only [Option.some.injEq, Addr.mk.injEq] at eo1 eo2
  obtain ⟨rfl, rfl, -⟩ := eo1
  obtain ⟨rfl, rfl, -⟩ := eo2
  replace z0 := hE2.out _ _ z0
  replace z1 := hE2.out _ _ z1
  replace z2 := hE2.out _ _ z2
  simp at z0 z1 z2
  obtain ⟨ab, cb, rfl, hp1, hp2, hp3⟩ := RdP.of HO3.out
  obtain ⟨bb, ob, rfl, p0, p1⟩ := hp3 0 (by decide)
  replace p0 := Ext.below hB4.out _ _ p0
  replace p1 := Ext.below hB4.out _ _ p1
  simp at p0 p1
  have t0 := hti3 0 (by decide)
  have t1 := (OwnB.cellAt (hM.out.rowI 0 (by decide))).2.2.2.2.1 0 (by decide)
  rw [HL.out] at t1
  rw [show rowV (gi 0) (regsN pA) (regsN pA) = .slice (some ⟨gi 0, 0, none⟩) 1 1 from rfl] at t0
  have HBz := Lib.hid (hb0.out.trans ((HB3'.out.trans (hB4.out.mono HB3'.out.size)).mono hb0.out.size))
  clear hti3 ho3 hp3
  rw [show pA.blks.length = 3 from rfl]
  have hpe := run_equalIn_pair w4
  go_wp2_with fail
  go_ret
  exact ⟨rfl, HBz.out⟩
end Go.Proofs.Ytnnhobbabcfogaa
