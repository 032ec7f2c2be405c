/-
 The document's run: a call begins.
-/
import Derived.Test.YtedihiodmgnlpaaZIrrunRuns36
set_option linter.all false
namespace Go.Proofs.Ytedihiodmgnlpaa
open Go.ChangeShapes Go.WideShapes Go.ChangeAt Go.RowKit
set_option maxHeartbeats 4000000
set_option linter.unusedVariables false
set_option maxRecDepth 20000

/-- registers with the first arguments put in -/
def cpL (args : List Int) (R j : Nat) : List Int := args.take j ++ List.replicate (R - j) 0
theorem cpL_len (args : List Int) (R j : Nat) (h : j ≤ args.length) (h2 : args.length ≤ R) : (cpL args R j).length = R := by simp [cpL]; omega
theorem cpL_set (args : List Int) (R j : Nat) (h : j < args.length) (h2 : args.length ≤ R) : (cpL args R j).set j (args.getD j 0) = cpL args R (j + 1) := by
 unfold cpL
 have e : R - j = (R - (j + 1)) + 1 := by omega
 rw [List.set_append_right _ _ (by simp [List.length_take]; omega), e, List.replicate_succ]
 have e2 : j - (args.take j).length = 0 := by simp [List.length_take]; omega
 rw [e2, List.set_cons_zero, List.take_succ_eq_append_getElem h, List.append_assoc]
 congr 1
 simp [List.getD, h]
theorem cpL_all (args : List Int) (R : Nat) : cpL args R args.length = args ++ List.replicate (R - args.length) 0 := by simp [cpL]
theorem cpL_words (args : List Int) (R j : Nat) (h : ∀ x ∈ args, 0 ≤ x ∧ x < 4294967296) : ∀ x ∈ cpL args R j, 0 ≤ x ∧ x < 4294967296 := fun x hx => by
 unfold cpL at hx
 rcases List.mem_append.1 hx with h1 | h1
 ·exact h x (List.mem_of_mem_take h1)
 ·rw [List.eq_of_mem_replicate h1]; exact ⟨by decide, by decide⟩
theorem infoCall : (Try.prog.info? 160).map (fun i => (i.zero, i.size, i.bytes)) = some (some (.agg #[.int .i64 0, .slice none 0 0, .int .i64 0, .int .i64 0, .int .i64 0]), 5, 56) := by kernel_rfl
section
variable {k : PK} {w0 w : World} {vt vo : Value} {s : Oc} {dn : Bool} {fs : List Kf} {f g : Kf}
theorem Pm.push0 {w1 : World} (h : Pm k w vt vo s dn fs) (hg : w.grownBy w1 vt.ownBlock) : w1.cell? ⟨k.br, 5, none⟩ = some vt ∧ w1.frozen? ⟨k.br, 5, none⟩ = false ∧ k.br < w1.heap.size := by
 have bx1 := h.bx.kept hg (rows_ne h.bx h.tt (by decide))
 exact ⟨bx1.cellAt 5 (by decide), bx1.frozenAt 5, (own_lt bx1 rfl).2⟩
def EntP (k : PK) (w0 w : World) (vo : Value) (vt : Value) (s : Oc) (fs : List Kf) (n : Nat) (args : List Int) (top : Int) (e : Ending) (w' : World) : Prop :=
 e = .returned (.tuple #[]) ∧ Since w0 w w' ∧
 ((top - longM (pk k.m n) < k.en ∨ 5000 ≤ fs.length) ∧ Pm k w' vt vo { s with e := 8 } true fs ∨
  ¬ (top - longM (pk k.m n) < k.en ∨ 5000 ≤ fs.length) ∧ ∃ vt' bg, Pm k w' vt' vo s false (fs ++ [⟨n, bg, args ++ List.replicate ((pk k.m n).regs.toNat - args.length) 0, top - longM (pk k.m n), 0, 0⟩]))
theorem enter_c (h : Pm k w vt vo s false fs) (ho : Old k w0 w vt vo fs) (n : Nat) (args : List Int) (va : Value) (top : Int) (hn : n < k.m.procs.length) (hh : Head (pk k.m n)) (hva : RdW w va args) (haw : ∀ x ∈ args, 0 ≤ x ∧ x < 4294967296) (hal : (args.length : Int) = (pk k.m n).params)
  (ht0 : 0 ≤ top) (ht1 : top ≤ 65536) (hen : 0 ≤ k.en) (hen2 : k.en ≤ 1000000) (hfl : fs.length ≤ 100000) :
  Calls Try.prog 63 #[.pointer (some ⟨k.br, 0, none⟩), .int .i64 (n : Int), va, .int .i64 top] w (EntP k w0 w vo vt s fs n args top) := by
 unfold EntP
 obtain ⟨vg, vd, vp, hme, hvg, hvd, hvp⟩ := h.md
 simp only [Value.agg.injEq, Array.mk.injEq, List.cons.injEq] at hme
 obtain ⟨-, -, hme, -, -⟩ := hme
 have HME := Lib.hid hme
 clear hvg hvd hme
 obtain ⟨ap, cp, rfl, hp1, hp2, -⟩ := id hvp
 obtain ⟨bp, op, tnm, tvo, tvb, hap, hto, htb, t0, t1, t2, t3, t4, t5⟩ := (RdPrs.at6 hvp).2 n hn
 subst hap
 have hpk : k.m.procs.getD n default = pk k.m n := rfl
 have HLE : Hid (∀ p, longM p = slE p.objs p.objs.length) := fun p => rfl
 rw [hpk] at hto htb t1 t2 t3
 obtain ⟨T, hT0⟩ : ∃ T, pk k.m n = T := ⟨_, rfl⟩
 rw [hT0] at hto htb t1 t2 t3 hh hal ⊢
 have HT0 := Lib.hid hT0
 clear hT0 hpk
 obtain ⟨R, hR⟩ : ∃ R : Nat, T.regs = R := ⟨T.regs.toNat, by have := hh.p0; have := hh.pr; omega⟩
 rw [hR] at t3
 have hRb : R ≤ 8000 := by have := hh.r8; omega
 have haR : args.length ≤ R := by have := hh.pr; omega
 clear hal
 rw [hR, Int.toNat_natCast]
 have HR := Lib.hid hR
 have hS1 := slot_sizes hh.sl
 have hS2 := slE_small hh.sl hh.ol T.objs.length (Nat.le_refl _)
 have hol := hh.ol
 rw [HLE.out]
 obtain ⟨tao, tco, rfl, hto1, hto2, -⟩ := id hto
 obtain ⟨tab, tcb, rfl, htb1, htb2, -⟩ := id htb
 unfold maxLen at hp2 hto2
 have hb0 := ho.sz
 have hbr0 := ho.br
 have HPA := Lib.hid (fun w' (hw : Below w.heap.size w w') => h.grow hw)
 have HSA := Lib.hid (fun w' (hw : Below w.heap.size w w') => (Since.of_below hw : Since w0 w w'))
 have HWP := Lib.hid (fun w' (hw : Below w.heap.size w w') => Ext.below (HPA.out w' hw).below)
 have EPL := Lib.hid (fun w' (hw : Below w.heap.size w w') => rplace_c T.objs _ w' (hto.ext (HWP.out w' hw)) hS1 (by omega))
 generalize hLO : slE T.objs T.objs.length = LO at *
 have HLO := Lib.hid hLO
 have HVA := Lib.hid hva
 obtain ⟨aa, ca, rfl, ha1, ha2, -⟩ := hva
 have HAW := Lib.hid haw
 have HTN : Hid (∀ j, j < args.length → ∃ b o, aa = some ⟨b, o, none⟩ ∧ w.cell? ⟨b, o + j, none⟩ = some (.int .u32 (args.getD j 0))) := fun j hj2 => by
  obtain ⟨a2, c2, e, -, -, hq⟩ := HVA.out
  simp only [Value.slice.injEq] at e
  obtain ⟨rfl, -, rfl⟩ := e
  obtain ⟨b, o, e, hc⟩ := hq j hj2
  exact ⟨b, o, e, by simpa using hc⟩
 unfold maxLen at ha2
 have x2 := (HPA.out w (Below.refl _ _)).c2
 have lbr := (HPA.out w (Below.refl _ _)).brLt.2
 rw [HME.out] at x2
 have hex := HWP.out w (Below.refl _ _)
 replace t0 := hex _ _ t0
 replace t1 := hex _ _ t1
 replace t2 := hex _ _ t2
 replace t3 := hex _ _ t3
 replace t4 := hex _ _ t4
 replace t5 := hex _ _ t5
 have lbp : bp < w.heap.size := World.block_lt_of_cell? w _ t1
 clear hex hLO hR hto htb hS1 hh
 obtain ⟨tR, htR⟩ : ∃ x, x = top - LO := ⟨_, rfl⟩
 obtain ⟨W1, hW1⟩ : ∃ W1, W1 = w.alloc (.cells #[.string tnm, .bool T.void, .int .i64 T.params, .int .i64 R, .slice tao T.objs.length tco, .slice tab T.blks.length tcb] 113) := ⟨_, rfl⟩
 have HB1 := Lib.hid (heap_of_alloc w _ _ hW1)
 have B1 : Hid (Below w.heap.size w W1) := by rw [hW1]; exact below_alloc w _
 have lb1 : w.heap.size < W1.heap.size := (Array.getElem?_eq_some_iff.1 HB1.out).1
 have y := fun j => cell_of_heap HB1.out j
 have y4 := y 4
 simp only [List.getElem?_toArray, List.getElem?_cons_zero, List.getElem?_cons_succ] at y4
 clear y
 go_enter Try.func63, Try.ntmps63
 go_upto_region 1 with (fail)
 rw [← hW1]
 clear hW1 t0 t1 t2 t3 t4 t5 x2 lbr htR
 go_wp2_with fail
 refine (EPL.out W1 B1.out).mono ?_
 rintro e w1 ⟨u, rfl, -, hb1⟩
 have BW : Hid (Below w.heap.size w w1) := B1.out.trans (hb1.mono B1.out.size)
 have HB := Lib.hid ((hb1.block w.heap.size lb1).trans HB1.out)
 have HP := Lib.hid (HPA.out w1 BW.out)
 have HS := Lib.hid (HSA.out w1 BW.out)
 obtain ⟨at', ct, rfl⟩ := row_shape HP.out.tt
 have c6 := HP.out.c6
 have c5 := HP.out.c5
 have lbr := HP.out.brLt.2
 have lb2 : w.heap.size < w1.heap.size := (Array.getElem?_eq_some_iff.1 HB.out).1
 have y := fun j => cell_of_heap HB.out j
 have y3 := y 3
 simp only [List.getElem?_toArray, List.getElem?_cons_zero, List.getElem?_cons_succ] at y3
 clear y y4 hb1
 by_cases hlow : top - LO < k.en
 ·have gl : decide (top - LO < k.en) = true := decide_eq_true hlow
  have HLW : Hid (top - LO < k.en ∨ 5000 ≤ fs.length) := .inl hlow
  clear hlow
  have z1 := HP.out.c5
  have z2 := HP.out.c11
  have z3 := HP.out.c12
  have z4 := HP.out.fz 11
  have z5 := HP.out.fz 12
  have P1 := HP.out.setF 11 (.int .i64 8) { s with e := 8 } false rfl rfl rfl
  have P2 := Lib.hid (P1.setF 12 (.bool true) { s with e := 8 } true rfl rfl rfl)
  clear P1
  go_wp2_with fail
  refine bodyPost_ret (results_none rfl _ _ _) rfl ?_
  exact ⟨rfl, (HS.out.trans (Since.set _ _ hbr0)).trans (Since.set _ _ hbr0), .inl ⟨HLW.out, P2.out⟩⟩
 ·have gl : decide (top - LO < k.en) = false := decide_eq_false hlow
  by_cases hdd : 5000 ≤ fs.length
  ·have gd : decide (5000 ≤ fs.length) = true := decide_eq_true hdd
   have gd2 : decide ((5000 : Int) ≤ (fs.length : Int)) = true := decide_eq_true (by omega)
   have HLW : Hid (top - LO < k.en ∨ 5000 ≤ fs.length) := .inr hdd
   clear hlow hdd
   have z1 := HP.out.c5
   have z2 := HP.out.c11
   have z3 := HP.out.c12
   have z4 := HP.out.fz 11
   have z5 := HP.out.fz 12
   have P1 := HP.out.setF 11 (.int .i64 8) { s with e := 8 } false rfl rfl rfl
   have P2 := Lib.hid (P1.setF 12 (.bool true) { s with e := 8 } true rfl rfl rfl)
   clear P1
   go_wp2_with fail
   refine bodyPost_ret (results_none rfl _ _ _) rfl ?_
   exact ⟨rfl, (HS.out.trans (Since.set _ _ hbr0)).trans (Since.set _ _ hbr0), .inl ⟨HLW.out, P2.out⟩⟩
  ·have gd : decide (5000 ≤ fs.length) = false := decide_eq_false hdd
   have gd2 : decide ((5000 : Int) ≤ (fs.length : Int)) = false := decide_eq_false (by omega)
   have HNL : Hid (¬ (top - LO < k.en ∨ 5000 ≤ fs.length)) := fun h => by rcases h with h | h <;> contradiction
   have hdd2 : fs.length < 5000 := by omega
   have hmk := run_make_row' (P := Try.prog) 25 35 (.int .u32 0) 4 Try.underlying25 infoU32r rfl .i64 .i64 R (by omega) (by omega)
   clear hlow hdd
   go_upto_region 6 with (fail)
   obtain ⟨W2, hW2⟩ : ∃ W2, W2 = w1.alloc (.cells (madeCells #[.int .u32 0] R) 35) := ⟨_, rfl⟩
   rw [← hW2]
   obtain ⟨bg, hbg⟩ : ∃ bg, bg = w1.heap.size := ⟨_, rfl⟩
   rw [← hbg]
   have hRG : W2.heap[bg]? = some (.cells (List.replicate R (Value.int .u32 0)).toArray 35 (0, 0)) := by
    rw [hbg, heap_of_alloc w1 _ _ hW2]
    congr 2
    rw [← toList_madeCells_one, Array.toArray_toList]
   have B2 : Hid (Below w.heap.size w W2) := BW.out.trans ((show Below w1.heap.size w1 W2 by rw [hW2]; exact below_alloc w1 _).mono BW.out.size)
   have hO : Hid (W2.ownsRow w.heap.size 35 1 (rowOf bg R) R ((cpL args R 0).map (Value.int .u32))) := by
    refine ⟨by simp [cpL], .inr ⟨bg, R, _, rfl, by have := BW.out.size; omega, hRG, Nat.le_refl _, by unfold maxLen; omega, by simp, ?_⟩⟩
    simp [cpL]
   have hbgw : w.heap.size ≤ bg := by have := BW.out.size; omega
   clear hbg hW2 hRG y3 c6 c5 lbr lb2 hmk HB HP HS
   go_wp2_with fail
   go_loopw [12] (fun i wr => ∃ j : Nat, j ≤ args.length ∧ i = .int .i64 (j : Int) ∧ Hid (Below w.heap.size w wr) ∧ Hid (wr.ownsRow w.heap.size 35 1 (rowOf bg R) R ((cpL args R j).map (Value.int .u32)))) (fun i _ => args.length - (intOf i).toNat)
   case atStart => exact ⟨0, Nat.zero_le _, rfl, B2, hO⟩
   case round =>
    clear B2 hO
    obtain ⟨j, hja, rfl, hB, hO⟩ := hrel
    by_cases hlt : j < args.length
    ·obtain ⟨bA, oA, rfl, cA⟩ := HTN.out j hlt
     have hxj := HAW.out (args.getD j 0) (by simp [List.getD, hlt])
     replace cA := Ext.below hB.out _ _ cA
     have lbA : bA < wr.heap.size := World.block_lt_of_cell? wr _ cA
     have hcl := cpL_len args R j hja haR
     have cR := hO.out.cellAt j (by omega)
     have fR := hO.out.frozenAt j
     have lbR : bg < wr.heap.size := (own_lt hO.out rfl).2
     have cR2 : wr.cell? ⟨bg, j, none⟩ = some (.int .u32 ((cpL args R j).getD j 0)) := by rw [cR]; simp [List.getD, show j < (cpL args R j).length by omega]
     obtain ⟨hO2, hG2⟩ := hO.out.stored j (.int .u32 (args.getD j 0))
     have hO3 : Hid ((wr.setCell ⟨bg, j, none⟩ (.int .u32 (args.getD j 0))).ownsRow w.heap.size 35 1 (rowOf bg R) R ((cpL args R (j + 1)).map (Value.int .u32))) := by
      show World.ownsRow _ _ _ _ _ _ _
      rw [← cpL_set args R j hlt haR, List.map_set]
      exact hO2
     have hB3 : Hid (Below w.heap.size w (wr.setCell ⟨bg, j, none⟩ (.int .u32 (args.getD j 0)))) := hB.out.setCell (p := ⟨bg, j, none⟩) hbgw _
     have hjR : j < R := by omega
     generalize (cpL args R j).getD j 0 = Z at *
     generalize args.getD j 0 = X at *
     clear hO hO2 hG2 cR hcl
     go_wp2_with fail
     go_roundw
     case rel => exact ⟨j + 1, by omega, by go_num, hB3, hO3⟩
     case measure => first | (simp [intOf]; done) | (simp [intOf]; omega)
    ·obtain rfl : j = args.length := by omega
     have HP := Lib.hid (HPA.out wr hB.out)
     have c5 := HP.out.c5
     have hta := HP.out.tt
     have hf0 : FrR k wr vo ⟨n, bg, cpL args R args.length, top - LO, 0, 0⟩ := by
      refine ⟨?_, ?_, cpL_words args R _ HAW.out⟩
      ·show wr.ownsRow _ _ _ (rowOf bg (cpL args R args.length).length) (cpL args R args.length).length _
       rw [cpL_len args R _ (Nat.le_refl _) haR]
       exact own_base hO.out h.below.size
      ·intro e; have := (own_lt h.oo (show vo.ownBlock = some bg from e.symm)).2; omega
     have hnm : bg ∉ fs.map Kf.bg := fun hm => by
      obtain ⟨g, hg, e⟩ := List.mem_map.1 hm
      have := (h.rr g hg).lt.2
      omega
     have HF0 := Lib.hid hf0
     have HNM := Lib.hid hnm
     have HB := Lib.hid hB.out
     have hlenB : w.heap.size ≤ wr.heap.size := hB.out.size
     have hkp := h.below.size
     have lbr := HP.out.brLt.2
     clear hf0 hnm hO hB
     go_wp2_with (at_builtin; refine appG 129 160 infoCall Try.underlying129 rfl (by decide) (by decide) [.int .i64 n, .slice (some ⟨bg, 0, none⟩) R R, .int .i64 (top - LO), .int .i64 0, .int .i64 0] rfl (by simp [Value.oneCell']) (own_below hta (below_alloc wr _)) rfl rfl rfl rfl (cell_newX wr _ _ _ rfl) (by omega) (by simp; omega) ?_; intro o1 w3 O1 G1 D1; obtain ⟨ao, co, rfl⟩ := row_shape O1; obtain ⟨x5, fr5, lb5⟩ := (HP.out.grow (below_alloc wr _)).push0 G1; have O1 := Lib.hid O1; have G1 := Lib.hid G1; clear hta c5 D1)
     go_end0
     have hB4 : Below wr.heap.size wr (wr.alloc (.cells #[.int .i64 n, .slice (some ⟨bg, 0, none⟩) R R, .int .i64 (top - LO), .int .i64 0, .int .i64 0] 160)) := below_alloc wr _
     have ePush := (HP.out.grow hB4).push (HF0.out.grow hB4) HNM.out G1.out (by have := O1.out; simpa [Kf.cells, rowOf, cpL_len args R _ (Nat.le_refl _) haR] using this)
     have hSw : Since w0 w wr := HSA.out wr HB.out
     have hS4 : Since w0 wr w3 := ⟨Nat.le_trans hB4.size G1.out.size, fun b h1 h2 => (G1.out.block b (Nat.lt_of_lt_of_le h2 hB4.size) (fun e => by have := ho.tt _ e.symm; omega)).trans (hB4.block b h2)⟩
     rw [cpL_all] at ePush
     exact ⟨rfl, (hSw.trans hS4).trans (Since.set _ _ hbr0), .inr ⟨HNL.out, _, bg, ePush⟩⟩
end
end Go.Proofs.Ytedihiodmgnlpaa
