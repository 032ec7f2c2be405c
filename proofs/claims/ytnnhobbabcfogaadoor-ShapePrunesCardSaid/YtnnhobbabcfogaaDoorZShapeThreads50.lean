/-
  IrTexts: the walk.; What is told as text of a procedure whose ends were threaded, or whose blocks were pruned: plain.
-/
import Derived.Test.YtnnhobbabcfogaaDoorZShapeThreads49
import Derived.Test.YtnnhobbabcfogaaDoorZShapeThreads45
import Derived.Test.YtnnhobbabcfogaaDoorZShapeThreads10
import Derived.Test.YtnnhobbabcfogaaDoorZShapeThreads09
import Derived.Test.YtnnhobbabcfogaaDoorZShapeThreads38

set_option linter.all false
namespace Go.Proofs.YtnnhobbabcfogaaDoor
open Go.ChangeShapes Go.WideShapes Go.ChangeAt Go.RowKit
set_option maxHeartbeats 4000000
set_option linter.unusedVariables false
set_option maxRecDepth 100000

/-- instructions and blocks of the first so many blocks -/
def cntN (p : Pr) (k : Nat) : Nat := ((p.blks.take k).map fun b => 1 + b.ins.length).sum
theorem cntN_succ (p : Pr) (k : Nat) (h : k < p.blks.length) : cntN p (k + 1) = cntN p k + 1 + (p.blks.getD k default).ins.length := by
  unfold cntN
  rw [List.take_succ_eq_append_getElem h, List.map_append, List.sum_append]
  simp [List.getD, h]; omega
theorem cntN_all (p : Pr) : (cntN p p.blks.length : Int) = (p.blks.length : Int) + (insN p : Int) := by
  unfold cntN insN
  rw [List.take_length]
  induction p.blks with
  | nil => rfl
  | cons b l ih => simp only [List.map_cons, List.sum_cons, List.length_cons]; omega
theorem cntN_le (p : Pr) (h : ∀ b ∈ p.blks, b.ins.length ≤ 60) : ∀ k, cntN p k ≤ 61 * k
  | 0 => by simp [cntN]
  | k + 1 => by
    have ih := cntN_le p h k
    by_cases hk : k < p.blks.length
    · rw [cntN_succ p k hk]
      have := h (p.blks.getD k default) (by simp [List.getD, hk])
      omega
    · unfold cntN at *
      rw [List.take_of_length_le (by omega)] at *
      omega
/-- a block's end as an instruction -/
def endI (b : Bk) : In := ⟨b.fin, 0, b.a, 0, 0, b.to, b.els, 0, 0, [], false⟩
def okEnds (p : Pr) : Bool := p.blks.all fun b => insF (endI b)
theorem fewP_of {p : Pr} (h : fewM ⟨[], [], [p], 0⟩ = true) : p.blks.length ≤ 40 ∧ p.objs.length ≤ 20 ∧ ∀ b ∈ p.blks, b.ins.length ≤ 60 ∧ ∀ i ∈ b.ins, insF i = true := fewM_pr h (List.mem_singleton.2 rfl)
theorem insF_nums {i : In} (h : insF i = true) : NmI i := by
  unfold insF at h
  simp only [Bool.and_eq_true, decide_eq_true_eq, List.all_eq_true] at h
  have k : ∀ x ∈ numsI i, -9223372036854775807 ≤ x := fun x hx => by have := okN_yes (h.1 x hx); omega
  exact ⟨k _ (by simp [numsI]), k _ (by simp [numsI]), k _ (by simp [numsI]), k _ (by simp [numsI]), k _ (by simp [numsI]), k _ (by simp [numsI]), k _ (by simp [numsI]), k _ (by simp [numsI]), fun x hx => by have := okN_yes (h.2.1 x hx); omega⟩
theorem text_nums {p : Pr} (h : fewM ⟨[], [], [p], 0⟩ = true) (he : okEnds p = true) : ∀ b ∈ p.blks, NmB b := fun b hb => by
  obtain ⟨-, -, h3⟩ := fewP_of h
  unfold okEnds at he
  rw [List.all_eq_true] at he
  have h4 := insF_nums (he b hb)
  exact ⟨fun i hi => insF_nums ((h3 b hb).2 i hi), h4.op, h4.a, h4.obj, h4.off⟩
theorem text_sz {p : Pr} (h : fewM ⟨[], [], [p], 0⟩ = true) : SzT p := by
  obtain ⟨h1, -, h3⟩ := fewP_of h
  exact ⟨by omega, fun b hb => by have := (h3 b hb).1; omega, fun b hb i hi => by have := insF_args ((h3 b hb).2 i hi); omega⟩
theorem text_szP {p : Pr} (h : fewM ⟨[], [], [p], 0⟩ = true) : SzP p := by
  obtain ⟨h1, -, h3⟩ := fewP_of h
  exact ⟨by omega, fun b hb => by have := (h3 b hb).1; omega⟩
theorem okEnds_no {p : Pr} {k : Nat} (hk : k < p.blks.length) (h : insF (endI (p.blks.getD k default)) = false) : okEnds p = false := by
  unfold okEnds
  rw [List.all_eq_false]
  exact ⟨p.blks.getD k default, by simp [List.getD, hk], by rw [h]; decide⟩
theorem IrTexts_w (p : Pr) (v : Value) (w : World) (hok : PrOk p) (hv : PrV w v p) (hpw : Pow w) (hg : 2 < w.heap.size) :
    Calls Tryd.prog 4 #[v] w fun e w' => e = .returned (.bool true) ∧ Below w.heap.size w w' := by
  have HA : Hid (∀ w', Below w.heap.size w w' → Calls Tryd.prog 10 #[] w' fun e w'' => e = .returned (.bool true) ∧ Below w'.heap.size w' w'') := fun w' hb => awake13_c w' (Go.Joins.var_stays pow_named hpw hb (Nat.le_refl _)) (Nat.lt_of_lt_of_le hg hb.size)
  have HT : Hid (∀ w', Below w.heap.size w w' → fewM ⟨[], [], [p], 0⟩ = true → Calls Tryd.prog 16 #[v] w' fun e w'' => e = .returned (.string ⟨(textF p).toArray⟩) ∧ Below w'.heap.size w' w'') := fun w' hb hf => text_c p v w' (Go.Joins.var_stays pow_named hpw hb (Nat.le_refl _)) (Nat.lt_of_lt_of_le hg hb.size) (hv.ext (Ext.below hb)) hok (text_sz hf)
  have HR : Hid (∀ w', Below w.heap.size w w' → fewM ⟨[], [], [p], 0⟩ = true → okEnds p = true → Calls Tryd.prog 17 #[v] w' fun e w'' => e = .returned (.string ⟨(textF p).toArray⟩) ∧ Below w'.heap.size w' w'') := fun w' hb hf he => rtext_c p v w' (hv.ext (Ext.below hb)) hok (text_sz hf) (text_nums hf he)
  have HS : Hid (∀ w', Below w.heap.size w w' → fewM ⟨[], [], [p], 0⟩ = true → Calls Tryd.prog 18 #[v] w' fun e w'' => e = .returned (.int .i64 ((p.blks.length : Int) + (insN p : Int))) ∧ Below w'.heap.size w' w'') := fun w' hb hf => size_c p v w' (hv.ext (Ext.below hb)) (text_szP hf)
  have HV := Lib.hid hv
  clear hpw
  obtain ⟨nm, vo, vb, rfl, ho, hb⟩ := hv
  have hb' := hb
  obtain ⟨ab, cb, rfl, h1, h2, -⟩ := hb'
  have HBk := Lib.hid (RdBks.at hb).2
  unfold maxLen at h2
  obtain ⟨W0, hW0⟩ : ∃ W0, W0 = (w.alloc (.cells #[.string nm, .bool p.void, .int .i64 p.params, .int .i64 p.regs, vo, .slice ab p.blks.length cb] 37)).alloc (.cells #[.string nm, .bool p.void, .int .i64 p.params, .int .i64 p.regs, vo, .slice ab p.blks.length cb] 37) := ⟨_, rfl⟩
  have hW0' : W0 = allocs w [.cells #[.string nm, .bool p.void, .int .i64 p.params, .int .i64 p.regs, vo, .slice ab p.blks.length cb] 37, .cells #[.string nm, .bool p.void, .int .i64 p.params, .int .i64 p.regs, vo, .slice ab p.blks.length cb] 37] := hW0
  have B0 : Hid (Below w.heap.size w W0) := by rw [hW0']; exact allocs_below _ _
  have H0 : Hid (W0.heap[w.heap.size]? = some (.cells #[.string nm, .bool p.void, .int .i64 p.params, .int .i64 p.regs, vo, .slice ab p.blks.length cb] 37 (0, 0))) := by rw [hW0']; exact allocs_heap _ w 0 (by simp)
  have H1 : Hid (W0.heap[w.heap.size + 1]? = some (.cells ([(p, nm, vo, Value.slice ab p.blks.length cb)].flatMap prCells).toArray 37 (0, 0))) := by rw [hW0']; exact allocs_heap _ w 1 (by simp)
  have HM : Hid (MdV W0 (.agg #[.slice none 0 0, .slice none 0 0, .slice (some ⟨w.heap.size + 1, 0, none⟩) 1 1, .int .i64 0]) ⟨[], [], [p], 0⟩) := ⟨_, _, _, rfl, RdSls.nil _, RdYs.nil _, RdPrs.lit [(p, nm, vo, Value.slice ab p.blks.length cb)] (by simp) H1.out (fun x hx => (by
    simp only [List.mem_cons, List.not_mem_nil, or_false] at hx
    rw [hx]
    exact ⟨ho.ext (Ext.below B0.out), hb.ext (Ext.below B0.out)⟩))⟩
  have HW0 := Lib.hid hW0
  clear hW0 hW0' H1 hb ho
  go_enter Tryd.func4, Tryd.ntmps4
  go_wp2_with fail
  have hf := few_c _ _ W0 HM.out
  rw [HW0.out] at hf
  refine Calls.mono hf ?_
  clear hf
  rw [← HW0.out]
  rintro e w1 ⟨rfl, hb1⟩
  have H0 := Lib.hid ((hb1.block w.heap.size (Array.getElem?_eq_some_iff.1 H0.out).1).trans H0.out)
  have BB := Lib.hid (B0.out.trans (hb1.mono B0.out.size))
  clear hb1 HW0 B0 HM
  obtain ⟨y0, y1, y2, y3, y4, y5, l0⟩ := cl6 H0.out
  cases hfw : fewM ⟨[], [], [p], 0⟩
  · go_wp2_with fail
    refine (HA.out _ BB.out).mono ?_
    rintro e w2 ⟨rfl, hb2⟩
    have BB := Lib.hid (BB.out.trans (hb2.mono BB.out.size))
    clear hb2
    go_wp2_with fail
    go_ret
    exact ⟨rfl, BB.out⟩
  · have HFW := Lib.hid hfw
    have HI := Lib.hid (fewP_of hfw)
    clear hfw
    have hpl := HI.out.1
    go_wp2_with fail
    clear y0 y1 y2 y3 y4 y5
    go_loopw [3, 4] (fun s i wr => ∃ k : Nat, i = .int .i64 (k : Int) ∧ s = .int .i64 (cntN p k : Int) ∧ k ≤ p.blks.length ∧ Hid (∀ j, j < k → insF (endI (p.blks.getD j default)) = true) ∧ Hid (Below w1.heap.size w1 wr)) (fun _ i _ => p.blks.length - (intOf i).toNat)
    case atStart => exact ⟨0, rfl, rfl, Nat.zero_le _, fun j hj => absurd hj (Nat.not_lt_zero _), Below.refl _ _⟩
    case round =>
      obtain ⟨k, rfl, rfl, hk, HE, HW⟩ := hrel
      have hz := HW.out.size
      have H0 := Lib.hid ((HW.out.block _ l0).trans H0.out)
      have BB := Lib.hid (BB.out.trans (HW.out.mono BB.out.size))
      have hcl := cntN_le p (fun b hb => (HI.out.2.2 b hb).1) k
      obtain ⟨y0, y1, y2, y3, y4, y5, l0⟩ := cl6 H0.out
      by_cases hlt : k < p.blks.length
      · have g1 : decide ((k : Int) < (p.blks.length : Int)) = true := decide_eq_true (by omega)
        have g2 : decide (k < p.blks.length) = true := decide_eq_true hlt
        obtain ⟨b, o, vi, rfl, hvi, c0, c1, c2, c3, c4⟩ := HBk.out k hlt
        have hE : Ext w wr := Ext.below BB.out
        replace c0 := hE _ _ c0
        replace c1 := hE _ _ c1
        replace c2 := hE _ _ c2
        replace c3 := hE _ _ c3
        replace c4 := hE _ _ c4
        clear hE
        have hcs := Lib.hid (cntN_succ p k hlt)
        have hil := (HI.out.2.2 (p.blks.getD k default) (by simp [List.getD, hlt])).1
        have hno := Lib.hid (fun h => okEnds_no hlt h)
        have HE1 : Hid (insF (endI (p.blks.getD k default)) = true → ∀ j, j < k + 1 → insF (endI (p.blks.getD j default)) = true) := fun h j hj => by
          by_cases e : j = k
          · rw [e]; exact h
          · exact HE.out j (by omega)
        generalize p.blks.getD k default = K at *
        obtain ⟨ai, ci, rfl, hi1, hi2, -⟩ := hvi
        unfold maxLen at hi2
        have hEI : ∀ u : World, InV u (.agg #[.int .i64 K.fin, .int .i64 0, .int .i64 K.a, .int .i64 0, .int .i64 0, .int .i64 K.to, .int .i64 K.els, .int .i64 0, .int .u32 0, .slice none 0 0, .bool false]) (endI K) := fun u => ⟨_, rfl, RdI.nil u⟩
        have HEI := Lib.hid hEI
        clear hEI
        go_wp2_with fail
        obtain ⟨W1, hW1⟩ : ∃ W1, W1 = wr.alloc (.cells #[.slice ai K.ins.length ci, .int .i64 K.fin, .int .i64 K.a, .int .i64 K.to, .int .i64 K.els] 40) := ⟨_, rfl⟩
        have hBX := Lib.hid (heap_of_alloc wr _ _ hW1)
        have HB1 : Hid (Below wr.heap.size wr W1) := by rw [hW1]; exact below_alloc wr _
        rw [← hW1]
        clear hW1 c0 c1 c2 c3 c4 y0 y1 y2 y3 y4 y5
        refine (ins_c (endI K) _ W1 (HEI.out _) (by simp [endI])).mono ?_
        rintro e w2 ⟨rfl, hb2⟩
        have hBX := Lib.hid ((hb2.block _ (Array.getElem?_eq_some_iff.1 hBX.out).1).trans hBX.out)
        have HW := Lib.hid (HW.out.trans ((HB1.out.trans (hb2.mono HB1.out.size)).mono hz))
        have BB := Lib.hid (BB.out.trans ((HB1.out.trans (hb2.mono HB1.out.size)).mono BB.out.size))
        clear hb2 HB1
        obtain ⟨z0, z1, z2, z3, z4, -⟩ := cl5 hBX.out
        cases hif : insF (endI K)
        · clear hif
          go_wp2_with fail
          refine (HA.out _ BB.out).mono ?_
          rintro e w3 ⟨rfl, hb2⟩
          have BB := Lib.hid (BB.out.trans (hb2.mono BB.out.size))
          clear hb2
          go_wp2_with fail
          go_ret
          exact ⟨rfl, BB.out⟩
        · have HE2 := Lib.hid (HE1.out hif)
          clear hif HE1 HE hno
          have k0 : 0 ≤ (cntN p k : Int) := by omega
          have k1 : (cntN p k : Int) ≤ 5000 := by omega
          go_wp2_with fail
          exact ⟨⟨k + 1, rfl, by rw [hcs.out]; simp [Int.natCast_add], by omega, HE2, HW⟩, by simp [intOf]; omega⟩
      · obtain rfl : k = p.blks.length := by omega
        have g1 : decide ((p.blks.length : Int) < (p.blks.length : Int)) = false := decide_eq_false (by omega)
        have g2 : decide (p.blks.length < p.blks.length) = false := decide_eq_false (by omega)
        have hoe : Hid (okEnds p = true) := by
          show _ = _
          unfold okEnds
          rw [List.all_eq_true]
          intro b hb
          obtain ⟨j, hj, rfl⟩ := List.getElem_of_mem hb
          have := HE.out j hj
          simpa [List.getD, hj] using this
        have hca := Lib.hid (cntN_all p)
        go_upto_region 11 with (fail)
        rw [hca.out]
        have hip : 0 ≤ (insN p : Int) := by omega
        obtain ⟨NP, hNP⟩ : ∃ NP, NP = (p.blks.length : Int) + (insN p : Int) := ⟨_, rfl⟩
        have HNP := Lib.hid hNP
        rw [← hNP]
        clear hNP
        refine wp_region_junk (fun _ => True) (by kernel_rfl) ?_
        refine J_loud1 0 _ rfl (by kernel_rfl) ?_
        simp only [List.getElem_toArray, List.getElem_cons_succ, List.getElem_cons_zero]
        intro wj hj
        go_wp2_with fail
        refine (HA.out wj (BB.out.trans (hj.mono BB.out.size))).mono ?_
        rintro e w2 ⟨rfl, hb2⟩
        go_wp2_with fail
        refine ⟨KeepX.below hb2, ?_⟩
        have hb3 := Lib.hid (hj.trans (hb2.mono hj.size))
        have H0 := Lib.hid ((hb3.out.block w.heap.size l0).trans H0.out)
        have BB := Lib.hid (BB.out.trans (hb3.out.mono BB.out.size))
        clear y0 y1 y2 y3 y4 y5 l0 hj hb2 hb3
        obtain ⟨y0, y1, y2, y3, y4, y5, l0⟩ := cl6 H0.out
        refine J_mobs [1, 2, 4] _ _ _ _ (by kernel_rfl) ?_
        simp only [List.map_cons, List.map_nil, List.getElem?_toArray, List.getElem?_cons_succ, List.getElem?_cons_zero, Option.getD_some, List.size_toArray, List.length_cons, List.length_nil, Nat.reduceAdd, Nat.reduceSub]
        repeat (go_big_quiet_step (fail))
        refine wpQuiet_nil ?_
        refine J_loud1 3 _ rfl (by kernel_rfl) ?_
        simp only [List.getElem_toArray, List.getElem_cons_succ, List.getElem_cons_zero]
        intro wj hj
        go_wp2_with fail
        refine (HT.out wj (BB.out.trans (hj.mono BB.out.size)) HFW.out).mono ?_
        rintro e w3 ⟨rfl, hb2⟩
        go_wp2_with fail
        refine ⟨KeepX.below hb2, ?_⟩
        have hb3 := Lib.hid (hj.trans (hb2.mono hj.size))
        have H0 := Lib.hid ((hb3.out.block w.heap.size l0).trans H0.out)
        have BB := Lib.hid (BB.out.trans (hb3.out.mono BB.out.size))
        clear y0 y1 y2 y3 y4 y5 l0 hj hb2 hb3
        obtain ⟨y0, y1, y2, y3, y4, y5, l0⟩ := cl6 H0.out
        refine J_loud1 5 _ rfl (by kernel_rfl) ?_
        simp only [List.getElem_toArray, List.getElem_cons_succ, List.getElem_cons_zero]
        intro wj hj
        go_wp2_with fail
        refine (HR.out wj (BB.out.trans (hj.mono BB.out.size)) HFW.out hoe.out).mono ?_
        rintro e w4 ⟨rfl, hb2⟩
        go_wp2_with fail
        refine ⟨KeepX.below hb2, ?_⟩
        have hb3 := Lib.hid (hj.trans (hb2.mono hj.size))
        have H0 := Lib.hid ((hb3.out.block w.heap.size l0).trans H0.out)
        have BB := Lib.hid (BB.out.trans (hb3.out.mono BB.out.size))
        clear y0 y1 y2 y3 y4 y5 l0 hj hb2 hb3
        obtain ⟨y0, y1, y2, y3, y4, y5, l0⟩ := cl6 H0.out
        refine J_mobs [6, 7, 8, 9, 11] _ _ _ _ (by kernel_rfl) ?_
        simp only [List.map_cons, List.map_nil, List.getElem?_toArray, List.getElem?_cons_succ, List.getElem?_cons_zero, Option.getD_some, List.size_toArray, List.length_cons, List.length_nil, Nat.reduceAdd, Nat.reduceSub]
        repeat (go_big_quiet_step (fail))
        refine wpQuiet_nil ?_
        refine J_loud1 10 _ rfl (by kernel_rfl) ?_
        simp only [List.getElem_toArray, List.getElem_cons_succ, List.getElem_cons_zero]
        intro wj hj
        go_wp2_with fail
        refine (HS.out wj (BB.out.trans (hj.mono BB.out.size)) HFW.out).mono ?_
        rintro e w5 ⟨rfl, hb2⟩
        rw [← HNP.out]
        go_wp2_with fail
        refine ⟨KeepX.below hb2, ?_⟩
        have BB := Lib.hid (BB.out.trans ((hj.trans (hb2.mono hj.size)).mono BB.out.size))
        clear hj hb2
        refine J_mobs [12, 13, 14] _ _ _ _ (by kernel_rfl) ?_
        simp only [List.map_cons, List.map_nil, List.getElem?_toArray, List.getElem?_cons_succ, List.getElem?_cons_zero, Option.getD_some, List.size_toArray, List.length_cons, List.length_nil, Nat.reduceAdd, Nat.reduceSub]
        repeat (go_big_quiet_step (fail))
        refine wpQuiet_nil ?_
        refine J_done (by kernel_rfl) (fun wk hk => ?_) _
        have BB := Lib.hid (BB.out.trans (hk.mono BB.out.size))
        clear hk
        go_wp2_with fail
        go_ret
        exact ⟨rfl, BB.out⟩
end Go.Proofs.YtnnhobbabcfogaaDoor

set_option linter.all false
namespace Go.Proofs.YtnnhobbabcfogaaDoor
set_option linter.unusedVariables false

theorem bk_at {p : Pr} {b : Bk} (hb : b ∈ p.blks) : ∃ n, n < p.blks.length ∧ bkAt p n = b := by
  obtain ⟨n, hn, rfl⟩ := List.mem_iff_getElem.1 hb
  exact ⟨n, hn, by simp [bkAt, List.getD, hn]⟩
theorem i64_nat {n : Nat} (h : n ≤ 1000000) : I64 (n : Int) := by unfold I64; omega
theorem thP_ok {p : Pr} (hok : PrOk p) (hJ : JmpOk p) (hl : p.blks.length ≤ 1000) : PrOk (thP p) := by
  refine ⟨hok.params, hok.regs, hok.objs, fun b' hb' => ?_⟩
  obtain ⟨b, hb, rfl⟩ := List.mem_map.1 (show b' ∈ p.blks.map (thB p) from hb')
  have ho := hok.blks b hb
  obtain ⟨n, hn, hbn⟩ := bk_at hb
  have e1 : ∀ x : Int, 0 ≤ x ∧ x < p.blks.length → I64 (endS p x.toNat : Int) := fun x hx => by
    have := endS_lt hJ (n := x.toNat) (by omega)
    exact i64_nat (by omega)
  have j1 := hJ.to1 n hn
  have j2 := hJ.to2 n hn
  rw [hbn] at j1 j2
  unfold thB
  split
  · rename_i h2
    have j2 := j2 h2
    split
    · exact ⟨ho.ins, by show I64 1; unfold I64; omega, by show I64 (-1); unfold I64; omega, e1 _ j2.1, by show I64 0; unfold I64; omega⟩
    · exact ⟨ho.ins, ho.fin, ho.a, e1 _ j2.1, e1 _ j2.2⟩
  · split
    · rename_i h1
      exact ⟨ho.ins, ho.fin, ho.a, e1 _ (j1 h1), ho.els⟩
    · exact ho
theorem thB_ins (p : Pr) (b : Bk) : (thB p b).ins = b.ins := by
  unfold thB
  split
  · split <;> rfl
  · split <;> rfl
theorem thP_sz {p : Pr} (h : SzT p) : SzT (thP p) := by
  refine ⟨by show (p.blks.map (thB p)).length ≤ _; rw [List.length_map]; exact h.blks, fun b' hb' => ?_, fun b' hb' => ?_⟩
  · obtain ⟨b, hb, rfl⟩ := List.mem_map.1 (show b' ∈ p.blks.map (thB p) from hb')
    rw [thB_ins]; exact h.ins b hb
  · obtain ⟨b, hb, rfl⟩ := List.mem_map.1 (show b' ∈ p.blks.map (thB p) from hb')
    rw [thB_ins]; exact h.args b hb
theorem pnB_ins (r : List Bool) (b : Bk) : (pnB r b).ins = b.ins := by
  unfold pnB
  split
  · rfl
  · split <;> rfl
theorem pn_mem {p : Pr} {b' : Bk} (h : b' ∈ (pnP p).blks) : ∃ b, b ∈ p.blks ∧ b' = pnB (reachP p) b := by
  obtain ⟨i, hi, rfl⟩ := List.mem_map.1 (show b' ∈ (rIdx (reachP p) p.blks.length).map fun i => pnB (reachP p) (bkAt p i) from h)
  unfold rIdx at hi
  rw [List.mem_filter, List.mem_range] at hi
  exact ⟨bkAt p i, by unfold bkAt; simp [List.getD, hi.1], rfl⟩
theorem numP_len (r : List Bool) (i : Nat) : numP r i ≤ r.length := Nat.le_trans (List.length_filter_le _ _) (List.length_take_le' _ _)
theorem pnP_ok {p : Pr} (hok : PrOk p) (hl : p.blks.length ≤ 1000) : PrOk (pnP p) := by
  refine ⟨hok.params, hok.regs, hok.objs, fun b' hb' => ?_⟩
  obtain ⟨b, hb, rfl⟩ := pn_mem hb'
  have ho := hok.blks b hb
  have e1 : ∀ x : Nat, I64 (numP (reachP p) x : Int) := fun x => by
    have := numP_len (reachP p) x
    rw [reachP_len] at this
    exact i64_nat (by omega)
  unfold pnB
  split
  · exact ⟨ho.ins, ho.fin, ho.a, e1 _, ho.els⟩
  · split
    · exact ⟨ho.ins, ho.fin, ho.a, e1 _, e1 _⟩
    · exact ho
theorem pnP_sz {p : Pr} (h : SzT p) : SzT (pnP p) := by
  refine ⟨?_, fun b' hb' => ?_, fun b' hb' => ?_⟩
  · show ((rIdx (reachP p) p.blks.length).map fun i => pnB (reachP p) (bkAt p i)).length ≤ _
    rw [List.length_map]
    unfold rIdx
    exact Nat.le_trans (List.length_filter_le _ _) (by rw [List.length_range]; exact h.blks)
  · obtain ⟨b, hb, rfl⟩ := pn_mem hb'
    rw [pnB_ins]; exact h.ins b hb
  · obtain ⟨b, hb, rfl⟩ := pn_mem hb'
    rw [pnB_ins]; exact h.args b hb
theorem few_szT {m : Md} (h : fewM m = true) {p : Pr} (hp : p ∈ m.procs) : SzT p := by
  obtain ⟨h1, -, h3⟩ := fewM_pr h hp
  exact ⟨by omega, fun b hb => by have := (h3 b hb).1; omega, fun b hb i hi => by have := insF_args ((h3 b hb).2 i hi); omega⟩
end Go.Proofs.YtnnhobbabcfogaaDoor
