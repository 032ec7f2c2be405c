/-
  DeadIdle: the walk.
-/
import Derived.Test.YtnnhobbabcfogaaZDeadIdle41
import Derived.Test.YtnnhobbabcfogaaZDeadIdle42
import Derived.Test.YtnnhobbabcfogaaZDeadIdle50
import Derived.Test.YtnnhobbabcfogaaZDeadIdle23
import Derived.Test.YtnnhobbabcfogaaZDeadIdle25
set_option linter.all false
namespace Go.Proofs.Ytnnhobbabcfogaa
open Go.ChangeShapes Go.WideShapes Go.ChangeAt Go.RowKit
set_option maxHeartbeats 4000000
set_option linter.unusedVariables false
set_option maxRecDepth 100000

theorem dead_ok {m : Md} {p : Pr} (hf : fewM m = true) (hm : p ∈ m.procs) (hk : okP m p = true) (hr : p.regs ≤ 40) : DeadOk p := by
  have hpr := fewM_pr hf hm
  unfold okP okHead at hk
  simp only [Bool.and_eq_true, decide_eq_true_eq, List.all_eq_true] at hk
  obtain ⟨⟨h1, h2, h3, h4, h5, h6, h7, -, -⟩, hb⟩ := hk
  have hgb : ∀ n, n < p.blks.length → p.blks.getD n default ∈ p.blks := fun n hn => by simp [List.getD, hn]
  have hgi : ∀ (b : Bk) k, k < b.ins.length → b.ins.getD k default ∈ b.ins := fun b k hk => by simp [List.getD, hk]
  refine ⟨by omega, ⟨by unfold I64; omega, by omega⟩, fun n hn => ?_, fun n hn k hk hp => ?_⟩
  · have h := hpr.2.2 _ (hgb n hn)
    refine ⟨by omega, fun k hk => ?_⟩
    have := insF_args (h.2 _ (hgi _ k hk))
    omega
  · have h := hb _ (hgb n hn)
    unfold okB at h
    simp only [Bool.and_eq_true, List.all_eq_true] at h
    have hi := h.1 _ (hgi _ k hk)
    generalize (p.blks.getD n default).ins.getD k default = i at *
    unfold pureI at hp
    have hp := of_decide_eq_true hp
    unfold okI at hi
    have h9 : ¬ i.op = 9 := by omega
    have e1 : (i.op != 6 && (i.op != 10 && i.op != 12)) = true := by
      simp only [bne_iff_ne, ne_eq, Bool.and_eq_true]; omega
    rw [if_neg h9, e1] at hi
    simp only [Bool.and_eq_true, regF, if_true, decide_eq_true_eq] at hi
    exact hi.2.1.1
/-- a table of rows of integers, to be read -/
def TabR (w : World) (g n : Nat) (F : Nat → List Int) : Prop := ∀ i, i < n → ∃ v, w.cell? ⟨g, i, none⟩ = some v ∧ RdI w v (F i)
theorem TabR.ext {w w' : World} {g n : Nat} {F : Nat → List Int} (h : TabR w g n F) (he : Ext w w') : TabR w' g n F := fun i hi => by
  obtain ⟨v, h1, h2⟩ := h i hi
  exact ⟨v, he _ _ h1, h2.ext he⟩
theorem PT.tabR {W0 w : World} {gP B n : Nat} {vs : List Value} {F : Nat → List Int} (h : PT W0 w gP B n vs ((List.range n).map F)) : TabR w gP n F := fun i hi => by
  refine ⟨_, h.cell hi, ?_⟩
  have := (h.row i hi).rd
  rwa [show ((List.range n).map F).getD i [] = F i from by simp [List.getD, hi]] at this
/-- two rows of bools that grow -/
structure TwoB (wo wr : World) (v9 v10 : Value) (l9 l10 : List Bool) : Prop where
  below : Below wo.heap.size wo wr
  o9 : wr.ownsRow wo.heap.size 4 1 v9 l9.length (l9.map Value.bool)
  o10 : wr.ownsRow wo.heap.size 4 1 v10 l10.length (l10.map Value.bool)
  ap : v9.ownBlock = none ∨ v9.ownBlock ≠ v10.ownBlock
section
variable {wo wr w' : World} {v9 v10 v' : Value} {l9 l10 : List Bool}
theorem TwoB.nil (wo : World) : TwoB wo wo (.slice none 0 0) (.slice none 0 0) [] [] := ⟨Below.refl _ _, World.ownsRow_nil _ _ _ _, World.ownsRow_nil _ _ _ _, .inl rfl⟩
theorem TwoB.keep (h : TwoB wo wr v9 v10 l9 l10) (hb : Below wr.heap.size wr w') : TwoB wo w' v9 v10 l9 l10 :=
  ⟨h.below.trans (hb.mono h.below.size), OwnB.below h.o9 hb, OwnB.below h.o10 hb, h.ap⟩
theorem TwoB.push9 {x : Bool} (h : TwoB wo wr v9 v10 l9 l10) (hg : wr.grownBy w' v9.ownBlock) (ho : w'.ownsRow wo.heap.size 4 1 v' (l9.length + 1) (l9.map Value.bool ++ [.bool x])) (ha : v'.ownBlock = v9.ownBlock ∨ v'.ownBlock = some wr.heap.size) : TwoB wo w' v' v10 (l9 ++ [x]) l10 := by
  refine ⟨grown_belG h.below h.below.size hg (fun b e => (World.ownsRow.lt h.o9 b e).1), by simpa using ho, World.ownsRow.kept h.o10 hg ?_, ?_⟩
  · rcases h.ap with e | e
    · rw [e]; cases v10.ownBlock <;> simp
    · exact .inr (Ne.symm e)
  · rcases ha with e | e
    · rw [e]; exact h.ap
    · refine .inr fun e2 => ?_
      have := (World.ownsRow.lt h.o10 _ (e2.symm.trans e)).2
      omega
theorem TwoB.push10 {x : Bool} (h : TwoB wo wr v9 v10 l9 l10) (hg : wr.grownBy w' v10.ownBlock) (ho : w'.ownsRow wo.heap.size 4 1 v' (l10.length + 1) (l10.map Value.bool ++ [.bool x])) (ha : v'.ownBlock = v10.ownBlock ∨ v'.ownBlock = some wr.heap.size) : TwoB wo w' v9 v' l9 (l10 ++ [x]) := by
  refine ⟨grown_belG h.below h.below.size hg (fun b e => (World.ownsRow.lt h.o10 b e).1), World.ownsRow.kept h.o9 hg h.ap, by simpa using ho, ?_⟩
  rcases ha with e | e
  · rw [e]; exact h.ap
  · refine .inr fun e2 => ?_
    have := (World.ownsRow.lt h.o9 _ (e2.trans e)).2
    omega
end
theorem rangeB_len (f : Nat → Bool) (n : Nat) : ((List.range n).map f).length = n := by simp
theorem rangeB_at (f : Nat → Bool) (n i : Nat) (h : i < n) : ((List.range n).map f).getD i false = f i := by simp [List.getD, h]
theorem rangeB_succ (f : Nat → Bool) (n : Nat) : (List.range (n + 1)).map f = (List.range n).map f ++ [f n] := by rw [List.range_succ, List.map_append]; rfl
/-- the law of append for a row of bools -/
theorem appB1 {ops : Array Oper} {rest : List Oper} {o : Oper} {a : Act} {W : World} {B : Nat} {v : Value} {l : List Bool} {x : Bool} {g : Nat} {Q : Exit → Act → World → Prop} {S X : Operand} (hown : W.ownsRow B 4 1 v l.length (l.map Value.bool)) (hgd : o.guard = none)
    (ho : o.op = .call { callee := .builtin .append, args := #[S, X], argTypes := #[45, 45] }) (hs : a.eval S = v)
    (hx : a.eval X = .slice (some ⟨g, 0, none⟩) 1 1) (hc : W.cell? ⟨g, 0, none⟩ = some (.bool x)) (hlen : l.length ≤ 1000000000) (hB : B ≤ W.heap.size)
    (h : ∀ v' w', w'.ownsRow B 4 1 v' (l.length + 1) (l.map Value.bool ++ [.bool x]) → W.grownBy w' v.ownBlock → (v'.ownBlock = v.ownBlock ∨ v'.ownBlock = some W.heap.size) → wpList Try.prog ops Q rest (a.put o.dst v') w') : wpList Try.prog ops Q (o :: rest) a W := by
  refine appG 45 4 info_bool rfl rfl (by decide) (by decide) [.bool x] rfl (fun u hu => by simp at hu; subst hu; rfl) hown hgd ho hs hx (fun j u hj => ?_) hlen hB h
  match j, hj with
  | 0, hj => simp at hj; subst hj; exact hc

theorem DeadIdle_w (m : Md) (v : Value) (n : Int) (w : World) (hn : MdOk m) (hv : MdV w v m) :
    Calls Try.prog 4 #[v, .int .i64 n] w fun e w' => e = .returned (.bool true) ∧ Below w.heap.size w w' := by
  have HR : Hid (∀ w', Ext w w' → Calls Try.prog 11 #[v, .int .i64 n] w' fun e w'' => e = .returned (.bool (rightB m n)) ∧ Below w'.heap.size w' w'') := fun w' he => rightM_c m v n w' (hv.ext he)
  have HV := Lib.hid hv
  obtain ⟨vg, vd, vp, rfl, hvg, hvd, hvp⟩ := hv
  have hvp' := hvp
  obtain ⟨ap, cp, rfl, hp1, hp2, -⟩ := hvp'
  unfold maxLen at hp2
  have HPS := Lib.hid (RdPrs.at6 hvp).2
  have HN := Lib.hid hn
  clear hvg hvd hvp hn
  obtain ⟨W0, hW0⟩ : ∃ W0, W0 = w.alloc (.cells #[vg, vd, .slice ap m.procs.length cp, .int .i64 m.main] 26) := ⟨_, rfl⟩
  have B0 : Hid (Below w.heap.size w W0) := by rw [hW0]; exact below_alloc w _
  have H0 := Lib.hid (heap_of_alloc w _ _ hW0)
  have HW0 := Lib.hid hW0
  clear hW0
  go_enter Try.func4, Try.ntmps4
  go_wp2_with fail
  rw [← HW0.out]
  refine (HR.out W0 (Ext.below B0.out)).mono ?_
  rintro e w1 ⟨rfl, hb1⟩
  have H0 := Lib.hid ((hb1.block w.heap.size (Array.getElem?_eq_some_iff.1 H0.out).1).trans H0.out)
  have BB := Lib.hid (B0.out.trans (hb1.mono B0.out.size))
  clear hb1 HR HW0 B0
  obtain ⟨y0, y1, y2, y3, l0⟩ := cl4 H0.out
  cases hr : rightB m n
  · clear hr
    go_wp2_with fail
    refine (awake18_c _).mono ?_
    rintro e w2 ⟨rfl, hb2⟩
    have BB := Lib.hid (BB.out.trans (hb2.mono BB.out.size))
    clear hb2
    go_wp2_with fail
    go_ret
    exact ⟨rfl, BB.out⟩
  · obtain ⟨hfw, k, rfl, h1, h40, hokm⟩ := rightB_is hr
    clear hr
    have g1 : decide ((k : Int) < (m.procs.length : Int)) = true := decide_eq_true (by omega)
    have g2 : decide (k < m.procs.length) = true := decide_eq_true h1
    obtain ⟨bp, op, tnm, tvo, tvb, hap, hto, htb, t0, t1, t2, t3, t4, t5⟩ := HPS.out k h1
    subst hap
    have hmem : m.procs.getD k default ∈ m.procs := by simp [List.getD, h1]
    have hkp : okP m (m.procs.getD k default) = true := by
      unfold okM at hokm
      simp only [Bool.and_eq_true, List.all_eq_true] at hokm
      exact hokm.2.2.2 _ hmem
    have DOK := Lib.hid (dead_ok hfw hmem hkp h40)
    clear hkp hokm hfw hmem HPS HN h40
    generalize m.procs.getD k default = P at *
    have HPV : Hid (PrV w (.agg #[.string tnm, .bool P.void, .int .i64 P.params, .int .i64 P.regs, tvo, tvb]) P) := ⟨tnm, tvo, tvb, rfl, hto, htb⟩
    have HBK := Lib.hid htb
    obtain ⟨ao, co, rfl, -⟩ := hto
    obtain ⟨ab, cb, rfl, hcb1, hcb2, -⟩ := htb
    unfold maxLen at hcb2
    have hE1 : Ext w w1 := Ext.below BB.out
    replace t0 := hE1 _ _ t0
    replace t1 := hE1 _ _ t1
    replace t2 := hE1 _ _ t2
    replace t3 := hE1 _ _ t3
    replace t4 := hE1 _ _ t4
    replace t5 := hE1 _ _ t5
    clear hE1
    go_wp2_with fail
    obtain ⟨W2, hW2⟩ : ∃ W2, W2 = w1.alloc (.cells #[.string tnm, .bool P.void, .int .i64 P.params, .int .i64 P.regs, .slice ao P.objs.length co, .slice ab P.blks.length cb] 32) := ⟨_, rfl⟩
    have H2 : Hid (W2.heap[w1.heap.size]? = some (.cells #[.string tnm, .bool P.void, .int .i64 P.params, .int .i64 P.regs, .slice ao P.objs.length co, .slice ab P.blks.length cb] 32)) := by rw [hW2]; exact heap_alloc_new w1 _
    have BB : Hid (Below w.heap.size w W2) := by rw [hW2]; exact BB.out.trans ((below_alloc w1 _).mono BB.out.size)
    rw [← hW2]
    clear hW2 t0 t1 t2 t3 t4 t5 y0 y1 y2 y3 l0 H0
    generalize w1.heap.size = b5 at *
    obtain ⟨x0, x1, x2, x3, x4, x5, l5⟩ := cl6 H2.out
    refine wp_region_junk (fun _ => True) (by kernel_rfl) ?_
    refine J_mobs [0, 2] _ _ _ _ (by kernel_rfl) ?_
    simp only [List.map_cons, List.map_nil, List.getElem?_toArray, List.getElem?_cons_succ, List.getElem?_cons_zero, Option.getD_some, List.size_toArray, List.length_cons, List.length_nil, Nat.reduceAdd, Nat.reduceSub]
    repeat (go_big_quiet_step (fail))
    refine wpQuiet_nil ?_
    clear x0 x1 x2 x3 x4 x5
    refine J_loud1 1 _ rfl (by kernel_rfl) ?_
    simp only [List.getElem_toArray, List.getElem_cons_succ, List.getElem_cons_zero]
    intro wj hj
    go_wp2_with fail
    refine (idle_c P _ wj (HPV.out.ext (Ext.below (BB.out.trans (hj.mono BB.out.size)))) DOK.out.blks.1 DOK.out.regs.1 DOK.out.regs.2 DOK.out.blks.2 DOK.out.ins DOK.out.pure).mono ?_
    rintro e w3 ⟨gA, BA, va, rfl, hpa⟩
    go_wp2_with fail
    refine ⟨KeepX.below hpa.below, ?_⟩
    have hb3 := Lib.hid (hj.trans (hpa.below.mono hj.size))
    have TA := Lib.hid hpa.tabR
    have H2 := Lib.hid ((hb3.out.block _ l5).trans H2.out)
    have BB := Lib.hid (BB.out.trans (hb3.out.mono BB.out.size))
    clear hpa hj hb3 l5
    have l5 := (Array.getElem?_eq_some_iff.1 H2.out).1
    refine J_loud1 3 _ rfl (by kernel_rfl) ?_
    simp only [List.getElem_toArray, List.getElem_cons_succ, List.getElem_cons_zero]
    intro wj hj
    go_wp2_with fail
    refine (stores_c P _ wj (HPV.out.ext (Ext.below (BB.out.trans (hj.mono BB.out.size)))) DOK.out.blks.2 (fun j hj => (DOK.out.ins j hj).1)).mono ?_
    rintro e w4 ⟨gB, BB', vb, rfl, hpb⟩
    go_wp2_with fail
    refine ⟨KeepX.below hpb.below, ?_⟩
    have hb3 := Lib.hid (hj.trans (hpb.below.mono hj.size))
    have TB := Lib.hid hpb.tabR
    have TA := Lib.hid (TA.out.ext (Ext.below hb3.out))
    have H2 := Lib.hid ((hb3.out.block _ l5).trans H2.out)
    have BB := Lib.hid (BB.out.trans (hb3.out.mono BB.out.size))
    clear hpb hj hb3 l5
    have l5 := (Array.getElem?_eq_some_iff.1 H2.out).1
    refine J_mobs [4, 5] _ _ _ _ (by kernel_rfl) ?_
    simp only [List.map_cons, List.map_nil, List.getElem?_toArray, List.getElem?_cons_succ, List.getElem?_cons_zero, Option.getD_some, List.size_toArray, List.length_cons, List.length_nil, Nat.reduceAdd, Nat.reduceSub]
    repeat (go_big_quiet_step (fail))
    refine wpQuiet_nil ?_
    refine J_done (by kernel_rfl) (fun wk hk => ?_) _
    have TB := Lib.hid (TB.out.ext (Ext.below hk))
    have TA := Lib.hid (TA.out.ext (Ext.below hk))
    have H2 := Lib.hid ((hk.block _ l5).trans H2.out)
    have BB := Lib.hid (BB.out.trans (hk.mono BB.out.size))
    clear hk l5
    obtain ⟨x0, x1, x2, x3, x4, x5, l5⟩ := cl6 H2.out
    go_wp2_with fail
    clear x0 x1 x2 x3 x4 x5
    obtain ⟨wk0, hwk0⟩ : ∃ wk0, wk0 = wk := ⟨_, rfl⟩
    go_loopw [8] (fun i wr => ∃ (n : Nat), n ≤ P.blks.length ∧ i = .int .i64 (n : Int) ∧ Hid (Below wk.heap.size wk wr)) (fun i _ => P.blks.length - (intOf i).toNat)
    case atStart => exact ⟨0, Nat.zero_le _, rfl, Below.refl _ _⟩
    case round =>
      obtain ⟨n, hn, rfl, BW⟩ := hrel
      obtain ⟨x0, x1, x2, x3, x4, x5, l6⟩ := cl6 ((BW.out.block _ l5).trans H2.out)
      by_cases hln : n < P.blks.length
      · have EW := Lib.hid ((Ext.below BB.out).trans (Ext.below BW.out))
        obtain ⟨bb, ob, vi, rfl, hvi, c0, -, -, -, -⟩ := (RdBks.at HBK.out).2 n hln
        obtain ⟨ai, ci, rfl, hi1, hi2, -⟩ := hvi
        unfold maxLen at hi2
        have HC0 := Lib.hid c0
        clear c0
        have HLI := (DOK.out.ins n hln).1
        have HIX : Hid (idleL P n = posU (idleI P n) (P.blks.getD n default).ins.length) := rfl
        have HSX : Hid (storeL P n = posU (storeI (P.blks.getD n default).ins) (P.blks.getD n default).ins.length) := rfl
        have EI : Hid (∀ (j : Nat) w', Ext w w' → j < (P.blks.getD n default).ins.length → Calls Try.prog 24 #[.agg #[.string tnm, .bool P.void, .int .i64 P.params, .int .i64 P.regs, .slice ao P.objs.length co, .slice (some ⟨bb, ob, none⟩) P.blks.length cb], .int .i64 (n : Int), .int .i64 (j : Int)] w' fun e w'' => e = .returned (.bool (idleI P n j)) ∧ Below w'.heap.size w' w'') :=
          fun j w' he hj => ridle_c P _ n j w' (HPV.out.ext he) DOK.out.blks.2 (fun j hj => (DOK.out.ins j hj).1) (fun i hi j hj => (DOK.out.ins i hi).2 j hj) hln hj
        have ES : Hid (∀ (j : Nat) w', Ext w w' → j < (P.blks.getD n default).ins.length → Calls Try.prog 25 #[.agg #[.string tnm, .bool P.void, .int .i64 P.params, .int .i64 P.regs, .slice ao P.objs.length co, .slice (some ⟨bb, ob, none⟩) P.blks.length cb], .int .i64 (n : Int), .int .i64 (j : Int)] w' fun e w'' => e = .returned (.bool (storeI (P.blks.getD n default).ins j)) ∧ Below w'.heap.size w' w'') :=
          fun j w' he hj => rstore_c P _ n j w' (HPV.out.ext he) DOK.out.blks.2 (fun j hj => (DOK.out.ins j hj).1) hln hj
        generalize (P.blks.getD n default).ins.length = LN at *
        generalize storeI (P.blks.getD n default).ins = sF at *
        generalize idleI P n = iF at *
        go_wp2_with fail
        generalize wr = wo at *
        go_loopw [9, 10, 11] (fun v9 v10 kk wr => ∃ (j : Nat), j ≤ LN ∧ kk = .int .i64 (j : Int) ∧ Hid (TwoB wo wr v9 v10 ((List.range j).map iF) ((List.range j).map sF))) (fun _ _ kk _ => LN - (intOf kk).toNat)
        case atStart => exact ⟨0, Nat.zero_le _, rfl, TwoB.nil wo⟩
        case round =>
          clear x0 x1 x2 x3 x4 x5
          obtain ⟨j, hj, rfl, T⟩ := hrel
          have E2 := Lib.hid (EW.out.trans (Ext.below T.out.below))
          have H6 := Lib.hid ((T.out.below.block _ l6).trans ((BW.out.block _ l5).trans H2.out))
          obtain ⟨x0, x1, x2, x3, x4, x5, l7⟩ := cl6 H6.out
          have c0 := E2.out _ _ HC0.out
          by_cases hlj : j < LN
          · go_wp2_with fail
            have HLJ := Lib.hid hlj
            have HAI := Lib.hid (rangeB_succ iF j)
            have HAS := Lib.hid (rangeB_succ sF j)
            have HL9 := Lib.hid (rangeB_len iF j)
            have HL10 := Lib.hid (rangeB_len sF j)
            refine (EI.out j wr E2.out hlj).mono ?_
            rintro e w5 ⟨rfl, hb5⟩
            have T5 := Lib.hid (T.out.keep hb5)
            have B5 := Lib.hid hb5
            clear hb5 x0 x1 x2 x3 x4 x5 c0 T
            generalize (List.range j).map iF = li at *
            generalize (List.range j).map sF = ls at *
            have H7 := Lib.hid ((B5.out.block _ l7).trans H6.out)
            obtain ⟨x0, x1, x2, x3, x4, x5, l8⟩ := cl6 H7.out
            have HLA : Hid (li.length ≤ 1000000000) := by show _ ≤ _; rw [HL9.out]; omega
            have HLB : Hid (ls.length ≤ 1000000000) := by show _ ≤ _; rw [HL10.out]; omega
            generalize hxi : iF j = xi at *
            have HXI := Lib.hid hxi
            clear hxi
            generalize hxs : sF j = xs at *
            have HXS := Lib.hid hxs
            clear hxs
            have T6 := Lib.hid (T5.out.keep (below_alloc w5 (.cells #[.bool xi] 4)))
            have HC6 : Hid ((w5.alloc (.cells #[.bool xi] 4)).cell? ⟨w5.heap.size, 0, none⟩ = some (.bool xi)) := cell_of_heap (heap_alloc_new w5 _) 0
            have HB6 : Hid (wo.heap.size ≤ (w5.alloc (.cells #[.bool xi] 4)).heap.size) := T6.out.below.size
            have H8 := Lib.hid (((below_alloc w5 (.cells #[.bool xi] 4)).block _ l8).trans H7.out)
            have l9 := (Array.getElem?_eq_some_iff.1 H8.out).1
            go_wp2_with (at_builtin; refine appB1 (x := xi) T6.out.o9 rfl rfl rfl rfl HC6.out HLA.out HB6.out ?_; intro v9' w7 h7 hg7 ha7; have T7 := Lib.hid (T6.out.push9 hg7 h7 ha7); have H9 := Lib.hid ((T7.out.below.block _ l6).trans ((BW.out.block _ l5).trans H2.out)); clear x0 x1 x2 x3 x4 x5 h7 hg7 ha7; obtain ⟨x0, x1, x2, x3, x4, x5, l10⟩ := cl6 H9.out)
            have E7 := Lib.hid (EW.out.trans (Ext.below T7.out.below))
            refine (ES.out j w7 E7.out HLJ.out).mono ?_
            rintro e w8 ⟨rfl, hb8⟩
            rw [HXS.out]
            have T8 := Lib.hid (T7.out.keep hb8)
            clear hb8 x0 x1 x2 x3 x4 x5
            have T9 := Lib.hid (T8.out.keep (below_alloc w8 (.cells #[.bool xs] 4)))
            have HC9 : Hid ((w8.alloc (.cells #[.bool xs] 4)).cell? ⟨w8.heap.size, 0, none⟩ = some (.bool xs)) := cell_of_heap (heap_alloc_new w8 _) 0
            have HB9 : Hid (wo.heap.size ≤ (w8.alloc (.cells #[.bool xs] 4)).heap.size) := T9.out.below.size
            go_wp2_with (at_builtin; refine appB1 (x := xs) T9.out.o10 rfl rfl rfl rfl HC9.out HLB.out HB9.out ?_; intro v10' w10 h7 hg7 ha7; have TX := Lib.hid (T9.out.push10 hg7 h7 ha7); clear h7 hg7 ha7)
            have hlj := HLJ.out
            have hrel : Hid (TwoB wo w10 v9' v10' ((List.range (j + 1)).map iF) ((List.range (j + 1)).map sF)) := by rw [HAI.out, HAS.out]; exact TX.out
            go_roundw
            case rel => exact ⟨j + 1, hlj, by go_num, hrel⟩
            case measure => simp [intOf]; omega
          · obtain rfl : j = LN := by omega
            have HRA : Hid (∀ w', Ext wr w' → RdB w' u9 ((List.range j).map iF)) := fun w' he => (OwnB.rd T.out.o9).ext he
            have HRB : Hid (∀ w', Ext wr w' → RdB w' u10 ((List.range j).map sF)) := fun w' he => (OwnB.rd T.out.o10).ext he
            have BW2 := Lib.hid (BW.out.trans (T.out.below.mono BW.out.size))
            obtain ⟨wa, ca, hwa⟩ := (TA.out.ext (Ext.below BW2.out)) n hln
            obtain ⟨wb, cb', hwb⟩ := (TB.out.ext (Ext.below BW2.out)) n hln
            rw [HIX.out] at hwa
            rw [HSX.out] at hwb
            have HLN : j ≤ 100000 := by omega
            have PA := Lib.hid (places_yes wr wa u9 iF ((List.range j).map iF) (fun i hi => rangeB_at iF j i (by simpa using hi)) (by rw [rangeB_len]; exact hwa) (HRA.out wr (Ext.refl _)) (by rw [rangeB_len]; exact HLN))
            have PB := Lib.hid (places_yes wr wb u10 sF ((List.range j).map sF) (fun i hi => rangeB_at sF j i (by simpa using hi)) (by rw [rangeB_len]; exact hwb) (HRB.out wr (Ext.refl _)) (by rw [rangeB_len]; exact HLN))
            clear hwa hwb HRA HRB T
            go_wp2_with fail
            refine PA.out.mono ?_
            rintro e wq ⟨rfl, rfl⟩
            go_wp2_with fail
            refine PB.out.mono ?_
            rintro e wq ⟨rfl, rfl⟩
            go_wp2_with fail
            go_roundw
            case rel => exact ⟨n + 1, hln, by go_num, BW2⟩
            case measure => simp [intOf]; omega
      · have BB2 := Lib.hid (BB.out.trans (BW.out.mono BB.out.size))
        go_wp2_with fail
        refine (awake18_c wr).mono ?_
        rintro e w2 ⟨rfl, hb2⟩
        have BB := Lib.hid (BB2.out.trans (hb2.mono BB2.out.size))
        clear hb2
        go_wp2_with fail
        go_ret
        exact ⟨rfl, BB.out⟩
end Go.Proofs.Ytnnhobbabcfogaa
