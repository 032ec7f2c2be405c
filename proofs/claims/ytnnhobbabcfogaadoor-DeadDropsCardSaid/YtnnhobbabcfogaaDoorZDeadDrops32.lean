/-
 dead's drop walked.
-/
import Derived.Test.YtnnhobbabcfogaaDoorZDeadDrops30
import Derived.Test.YtnnhobbabcfogaaDoorZDeadDrops31
import Derived.Test.YtnnhobbabcfogaaDoorZDeadDrops19
set_option linter.all false
namespace Go.Proofs.YtnnhobbabcfogaaDoor
open Go.ChangeShapes Go.WideShapes Go.ChangeAt Go.RowKit
set_option maxHeartbeats 4000000
set_option maxRecDepth 100000
set_option linter.unusedVariables false

/-- sizes and registers that dead's functions stay within -/
structure DeadOk (p : Pr) : Prop where
 blks : 0 < p.blks.length ∧ p.blks.length ≤ 1000
 regs : I64 p.regs ∧ p.regs ≤ 1000
 ins : ∀ n, n < p.blks.length → (p.blks.getD n default).ins.length ≤ 1000 ∧ ∀ k, k < (p.blks.getD n default).ins.length → ((p.blks.getD n default).ins.getD k default).args.length ≤ 1000
 pure : ∀ n, n < p.blks.length → ∀ k, k < (p.blks.getD n default).ins.length → pureI ((p.blks.getD n default).ins.getD k default) = true → 0 ≤ ((p.blks.getD n default).ins.getD k default).d ∧ ((p.blks.getD n default).ins.getD k default).d < p.regs
def zProc : Array Value := #[.string ⟨#[]⟩, .bool false, .int .i64 0, .int .i64 0, .slice none 0 0, .slice none 0 0]
theorem but_grown {g : Nat} {w w' : World} (h : But g w w') : w.grownBy w' (some g) := ⟨h.os, h.tape, h.output, h.size, fun k hk hne => h.block k hk (fun e => hne (by rw [e]))⟩
theorem own_base {w : World} {B B' n sz : Nat} {e : TypeId} {v : Value} {xs : List Value} (h : w.ownsRow B e sz v n xs) (hB : B' ≤ B) : w.ownsRow B' e sz v n xs := by
 obtain ⟨h1, h2 | ⟨g, cap, cur, e1, e2, e3⟩⟩ := h
 ·exact ⟨h1, .inl h2⟩
 ·exact ⟨h1, .inr ⟨g, cap, cur, e1, by omega, e3⟩⟩
theorem flat_atB (L : List (Bk × Value)) : ∀ k, k < L.length → (L.flatMap bkCells)[k * 5]? = some (L.getD k default).2 := by
 induction L with
 | nil => intro k h; simp at h
 | cons y L ih =>
  intro k hk
  rw [List.flatMap_cons]
  cases k with
  | zero => simp [bkCells]
  | succ k =>
   rw [List.getElem?_append_right (by simp [bkCells]; omega)]
   have := ih k (by simpa using hk)
   simp only [List.getD_cons_succ]
   rw [← this]
   congr 1
   simp [bkCells]
   omega
theorem drop_c (p : Pr) (nm : ByteArray) (vo vb : Value) (w00 w : World) (he00 : Ext w00 w) (hP : PrV w (.agg #[.string nm, .bool p.void, .int .i64 p.params, .int .i64 p.regs, vo, vb]) p) (hA : InsAt w00 w vb p.blks) (hok : DeadOk p) :
  Calls Tryd.prog 58 #[.agg #[.string nm, .bool p.void, .int .i64 p.params, .int .i64 p.regs, vo, vb]] w fun e w' =>
   ∃ vb', e = .returned (.tuple #[.agg #[.string nm, .bool p.void, .int .i64 p.params, .int .i64 p.regs, vo, vb'], .int .i64 (goneP p p.blks.length : Int)]) ∧ OutB w00 w' w.heap.size vb' (dropP p).blks ∧ Below w.heap.size w w' := by
 have EI : Hid (∀ w', Ext w w' → Calls Tryd.prog 57 #[.agg #[.string nm, .bool p.void, .int .i64 p.params, .int .i64 p.regs, vo, vb]] w' fun e w'' => ∃ gP B vs, e = .returned (.slice (some ⟨gP, 0, none⟩) p.blks.length p.blks.length) ∧ PT w' w'' gP B p.blks.length vs ((List.range p.blks.length).map (idleL p))) :=
  fun w' he => idle_c p _ w' (hP.ext he) hok.blks.1 hok.regs.1 hok.regs.2 hok.blks.2 hok.ins hok.pure
 have ES : Hid (∀ w', Ext w w' → Calls Tryd.prog 75 #[.agg #[.string nm, .bool p.void, .int .i64 p.params, .int .i64 p.regs, vo, vb]] w' fun e w'' => ∃ gP B vs, e = .returned (.slice (some ⟨gP, 0, none⟩) p.blks.length p.blks.length) ∧ PT w' w'' gP B p.blks.length vs ((List.range p.blks.length).map (storeL p))) :=
  fun w' he => stores_c p _ w' (hP.ext he) hok.blks.2 (fun j hj => (hok.ins j hj).1)
 obtain ⟨hN0, hN1⟩ := hok.blks
 have HI60 := Lib.hid (fun n hn => (hok.ins n hn).1)
 clear hok
 obtain ⟨nm', vo', vb', he1, hvo, hvb⟩ := hP
 simp only [Value.agg.injEq, Array.mk.injEq, List.cons.injEq, Value.string.injEq, true_and, and_true] at he1
 obtain ⟨rfl, rfl, rfl⟩ := he1
 obtain ⟨L, hL, hLs, hLi⟩ := hA
 obtain ⟨a, c, rfl, hc1, hc2, -⟩ := id hvb
 unfold maxLen at hc2
 have HVO := Lib.hid hvo
 have HE00 := Lib.hid he00
 clear he00
 have HLI := Lib.hid hLi
 have HLS := Lib.hid hLs
 have hLn : L.length = p.blks.length := by rw [← hL]; simp
 have hone := bk_one L fun x hx => by obtain ⟨L', -, k2, -⟩ := hLi x hx; obtain ⟨a, c, e⟩ := src_sl k2; exact ⟨a, _, c, e⟩
 have HL := Lib.hid hL
 have HLN := Lib.hid hLn
 have HON := Lib.hid hone
 clear hvo hvb hLi hLs hL hLn hone
 go_enter Tryd.func58, Tryd.ntmps58
 go_wp2_with fail
 obtain ⟨WA, hWA⟩ : ∃ WA, WA = ((w.alloc (.cells #[.string nm, .bool p.void, .int .i64 p.params, .int .i64 p.regs, vo, .slice a p.blks.length c] 37)).alloc (.cells zProc 37)).drew := ⟨_, rfl⟩
 have BA : Hid (Below w.heap.size w WA) := by rw [hWA]; exact ((below_alloc w _).alloc (by simp) _).drew
 have H0 : Hid (WA.heap[w.heap.size]? = some (.cells #[.string nm, .bool p.void, .int .i64 p.params, .int .i64 p.regs, vo, .slice a p.blks.length c] 37)) := by
  rw [hWA]; exact ((below_alloc _ _).block _ (by simp)).trans (heap_alloc_new w _)
 have H1 : Hid (WA.heap[w.heap.size + 1]? = some (.cells zProc 37)) := by
  rw [hWA]
  have := heap_alloc_new (w.alloc (.cells #[.string nm, .bool p.void, .int .i64 p.params, .int .i64 p.regs, vo, .slice a p.blks.length c] 37)) (.cells zProc 37)
  rwa [World.size_alloc] at this
 unfold zProc at hWA
 refine wp_region_game (fun b => b < WA.heap.size) (by kernel_rfl) ?_
 show wpE _ _ _ _ _ _ _ (World.drew _)
 rw [← hWA]
 clear hWA
 have q1 := (Array.getElem?_eq_some_iff.1 H0.out).1
 have q2 := (Array.getElem?_eq_some_iff.1 H1.out).1
 obtain ⟨x0, x1, x2, x3, x4, x5, -⟩ := cl6 H0.out
 refine E_mob2s [0, 2] _ _ _ _ (by kernel_rfl) ?_
 simp only [List.map_cons, List.map_nil, List.getElem?_toArray, List.getElem?_cons_succ, List.getElem?_cons_zero, Option.getD_some, List.size_toArray, List.length_cons, List.length_nil, Nat.reduceAdd, Nat.reduceSub]
 repeat (go_big_quiet_step (fail))
 refine wpQuiet_nil ?_
 refine E_loud1 1 _ rfl (by kernel_rfl) ?_
 simp only [List.getElem_toArray, List.getElem_cons_succ, List.getElem_cons_zero]
 go_wp2_with fail
 refine (EI.out WA (Ext.below BA.out)).mono ?_
 rintro e w1 ⟨gI, BI, vsI, rfl, PI⟩
 have PI := Lib.hid PI
 have HK1 : Hid (Keep (fun b => b < WA.heap.size) WA w1) := keep_belU PI.out.below (fun b hb => hb)
 clear x0 x1 x2 x3 x4 x5
 go_wp2_with fail
 refine ⟨HK1.out, ?_⟩
 refine E_loud1 3 _ rfl (by kernel_rfl) ?_
 simp only [List.getElem_toArray, List.getElem_cons_succ, List.getElem_cons_zero]
 go_wp2_with fail
 have hz1 := PI.out.below.size
 refine (ES.out w1 (Ext.below (BA.out.trans (PI.out.below.mono BA.out.size)))).mono ?_
 rintro e w2 ⟨gS, BS, vsS, rfl, PS⟩
 have PS := Lib.hid PS
 have HK2 : Hid (Keep (fun b => b < WA.heap.size) w1 w2) := keep_belU PS.out.below (fun b hb => Nat.lt_of_lt_of_le hb hz1)
 go_wp2_with fail
 refine ⟨HK2.out, ?_⟩
 refine E_mob2s [4, 5] _ _ _ _ (by kernel_rfl) ?_
 simp only [List.map_cons, List.map_nil, List.getElem?_toArray, List.getElem?_cons_succ, List.getElem?_cons_zero, Option.getD_some, List.size_toArray, List.length_cons, List.length_nil, Nat.reduceAdd, Nat.reduceSub]
 repeat (go_big_quiet_step (fail))
 refine wpQuiet_nil ?_
 refine E_done (by kernel_rfl) ?_ _
 have hz2 := PS.out.below.size
 have B12 : Hid (Below WA.heap.size WA w2) := PI.out.below.trans (PS.out.below.mono hz1)
 have BW2 : Hid (Below w.heap.size w w2) := BA.out.trans (B12.out.mono BA.out.size)
 have H0 := Lib.hid ((B12.out.block _ q1).trans H0.out)
 have H1 := Lib.hid ((B12.out.block _ q2).trans H1.out)
 have RI := Lib.hid (PI.out.rowsF.below PS.out.below)
 have RS := Lib.hid PS.out.rowsF
 have gI0 := PI.out.g0
 have gS0 := PS.out.g0
 have FI : Hid (∀ j, j < p.blks.length → ∀ b, (vsI.getD j undef).ownBlock = some b → BI ≤ b ∧ b < w1.heap.size) := fun j hj b e => World.ownsRow.lt (PI.out.row j hj) b e
 have hBI := PI.out.gB
 have hBS := PS.out.gB
 have hBIw := PI.out.Bw
 have hBSw := PS.out.Bw
 have FS : Hid (∀ j, j < p.blks.length → ∀ b, (vsS.getD j undef).ownBlock = some b → BS ≤ b ∧ b < w2.heap.size) := fun j hj b e => World.ownsRow.lt (PS.out.row j hj) b e
 have ECL : Hid (Calls Tryd.prog 52 #[.slice a p.blks.length c] w2 fun e w' => ∃ v', e = .returned v' ∧ w'.ownsRow w2.heap.size 40 5 v' p.blks.length (L.flatMap bkCells) ∧ Below w2.heap.size w2 w') :=
  cloneBk _ _ _ w2 (by
   have := HLS.out
   rw [HLN.out] at this
   rcases this with h | ⟨ad, c', h1, h2, h3, h4⟩
   ·exact .inl h
   ·exact .inr ⟨ad, c', h1, h2, h3, fun j u hj => by obtain ⟨b, o, e, hx⟩ := h4 j u hj; exact ⟨b, o, e, Ext.below BW2.out _ _ hx⟩⟩) (by rw [flat_len bkCells 5 (fun _ => rfl) L, HLN.out]) (by omega) HON.out
 clear PI PS HK1 HK2 EI ES HLS HON B12
 have fz5 := frozen_of_heap H0.out 5
 obtain ⟨x0, x1, x2, x3, x4, x5, l0⟩ := cl6 H0.out
 go_wp2_with fail
 refine ECL.out.mono ?_
 rintro e w3 ⟨v3, rfl, ho3, hb3⟩
 have ho3' := ho3
 obtain ⟨-, ⟨-, h00⟩ | ⟨gB, cB, cur3, rfl, hgB, hgB3, -⟩⟩ := ho3'
 ·omega
 have hgw3 := (Array.getElem?_eq_some_iff.1 hgB3).1
 have H0 := Lib.hid ((hb3.block _ l0).trans H0.out)
 have l0b := (Array.getElem?_eq_some_iff.1 H1.out).1
 have H1 := Lib.hid ((hb3.block _ l0b).trans H1.out)
 have l03 := (Array.getElem?_eq_some_iff.1 H0.out).1
 obtain ⟨W4, hW4⟩ : ∃ W4, W4 = w3.setCell ⟨w.heap.size, 5, none⟩ (.slice (some ⟨gB, 0, none⟩) p.blks.length cB) := ⟨_, rfl⟩
 have K4 : Hid (But w.heap.size w3 W4) := by rw [hW4]; exact But.setCell _ _ _ _
 have hz3 := hb3.size
 have hz4 := K4.out.size
 have D0 : Hid (DrP p w00 w W4 W4 gB cB 0 L) := by
  have e1 : ∀ j, j < p.blks.length → (L.getD j default).1 = p.blks.getD j default := fun j hj => by
   have hj2 : j < L.length := by rw [HLN.out]; exact hj
   rw [← HL.out]
   simp [List.getD, hj2]
  refine ⟨?_, HLN.out, fun j hj => absurd hj (Nat.not_lt_zero j), fun j hj => by rw [if_neg (Nat.not_lt_zero j)]; exact e1 j hj, ?_, fun j _ hj => ?_⟩
  ·rw [hW4]
   exact own_base (far_set ho3 (by omega)) (by omega)
  ·exact BW2.out.trans ((hb3.mono (by omega)).trans (K4.out.toBelow (Nat.le_refl _) (by omega)))
  ·have hj2 : j < L.length := by rw [HLN.out]; exact hj
   have e : L.getD j default = L[j] := by simp [List.getD, hj2]
   rw [e]
   exact HLI.out _ (List.getElem_mem hj2)
 have G0 : Hid (W4.heap[w.heap.size]? = some (.cells #[.string nm, .bool p.void, .int .i64 p.params, .int .i64 p.regs, vo, .slice (some ⟨gB, 0, none⟩) p.blks.length cB] 37)) := by
  rw [hW4]; exact heap_setCell_same w3 w.heap.size 5 _ _ _ H0.out
 have G1 : Hid (W4.heap[w.heap.size + 1]? = some (.cells zProc 37)) := (K4.out.block _ (Nat.lt_of_lt_of_le l0b hz3) (by omega)).trans H1.out
 have gAI : w.heap.size + 1 < gI := by have := WA.heap.size; omega
 have RI := Lib.hid ((RI.out.below hb3).turn (but_grown K4.out) (by simp; omega) (fun j h1 h2 => .inr fun e => by have := (FI.out j h2 _ e).1; omega))
 have RS := Lib.hid ((RS.out.below hb3).turn (but_grown K4.out) (by simp; omega) (fun j h1 h2 => .inr fun e => by have := (World.ownsRow.lt (RS.out.row j h1 h2) _ e).1; omega))
 have hgB4 : gB < W4.heap.size := by omega
 have fz5 := frozen_of_heap H0.out 5
 obtain ⟨x0, x1, x2, x3, x4, x5, -⟩ := cl6 H0.out
 have y5 : W4.cell? ⟨w.heap.size, 5, none⟩ = some (.slice (some ⟨gB, 0, none⟩) p.blks.length cB) := cell_of_heap G0.out 5
 have HW4 := Lib.hid hW4
 have hw4b : w2.heap.size ≤ W4.heap.size := by omega
 clear hW4 ho3 hb3 hgB3 HLI HL HLN ECL BW2 BA K4 H0 H1
 dsimp only
 go_wp2_with fail
 rw [← HW4.out]
 have hsum : ∀ n, n ≤ p.blks.length → goneP p n ≤ n * 2000 := fun n hn => by
  induction n with
  | zero => simp [goneP]
  | succ n ih =>
   rw [goneP_succ]
   have h1 := ih (by omega)
   have h2 := HI60.out n (by omega)
   have h3 := posU_le (idleI p n) (p.blks.getD n default).ins.length
   have h4 := posU_le (storeI (p.blks.getD n default).ins) (p.blks.getD n default).ins.length
   have h5 : (placesL p n).length = (posU (idleI p n) (p.blks.getD n default).ins.length).length + (posU (storeI (p.blks.getD n default).ins) (p.blks.getD n default).ins.length).length := by unfold placesL idleL storeL; rw [List.length_append]
   omega
 have HPL2 : Hid (∀ n, n < p.blks.length → (placesL p n).length ≤ 2000) := fun n hn => by
  have h2 := HI60.out n hn
  have h3 := posU_le (idleI p n) (p.blks.getD n default).ins.length
  have h4 := posU_le (storeI (p.blks.getD n default).ins) (p.blks.getD n default).ins.length
  have h5 : (placesL p n).length = (posU (idleI p n) (p.blks.getD n default).ins.length).length + (posU (storeI (p.blks.getD n default).ins) (p.blks.getD n default).ins.length).length := by unfold placesL idleL storeL; rw [List.length_append]
  omega
 have HSUM := Lib.hid hsum
 clear hsum x0 x1 x2 x3 x4 x5 y5 fz5 HW4
 go_loopw [6, 20] (fun s i wr => ∃ (n : Nat) (cur : List (Bk × Value)), n ≤ p.blks.length ∧ s = .int .i64 (goneP p n : Int) ∧ i = .int .i64 (n : Int) ∧ Hid (DrP p w00 w W4 wr gB cB n cur) ∧ Hid (RowsF wr gI BI p.blks.length n vsI (idleL p)) ∧ Hid (RowsF wr gS BS p.blks.length n vsS (storeL p)) ∧
  Hid (wr.heap[w.heap.size]? = some (.cells #[.string nm, .bool p.void, .int .i64 p.params, .int .i64 p.regs, vo, .slice (some ⟨gB, 0, none⟩) p.blks.length cB] 37)) ∧ Hid (wr.heap[w.heap.size + 1]? = some (.cells zProc 37)) ∧ Hid (W4.heap.size ≤ wr.heap.size)) (fun _ i _ => p.blks.length - (intOf i).toNat)
 case atStart => exact ⟨0, L, Nat.zero_le _, by simp [goneP], rfl, D0, RI, RS, G0, G1, Nat.le_refl _⟩
 case round =>
  clear D0 RI RS G0 G1
  obtain ⟨n, cur, hn, rfl, rfl, D, RI, RS, G0, G1, hW⟩ := hrel
  by_cases hlt : n < p.blks.length
  ·have hs0 := HSUM.out n hn
   have hs1 := HSUM.out (n + 1) hlt
   have HGS := Lib.hid (goneP_succ p n)
   have rowI := RI.out.row n (Nat.le_refl _) hlt
   have rowS := RS.out.row n (Nat.le_refl _) hlt
   have cI := RI.out.cell n (Nat.le_refl _) hlt
   have cS := RS.out.cell n (Nat.le_refl _) hlt
   have lI := World.block_lt_of_cell? wr _ cI
   have lS := World.block_lt_of_cell? wr _ cS
   obtain ⟨aI, kI, hvI⟩ := row_form rowI
   have HVI := Lib.hid hvI
   rw [hvI] at cI
   have hbb : gI < BI := hBI
   have G0r := cell_of_heap G0.out 5
   obtain ⟨WD, hWD⟩ : ∃ WD, WD = wr.drew := ⟨_, rfl⟩
   have BD : Hid (Below wr.heap.size wr WD) := by rw [hWD]; exact (Below.refl _ _).drew
   have HWD := Lib.hid hWD
   clear hWD
   have RowI := Lib.hid (OwnI.below rowI BD.out)
   have RowS := Lib.hid (OwnI.below rowS BD.out)
   have HPL : Hid (placesL p n = idleL p n ++ storeL p n) := rfl
   have hn0 : (0 : Int) ≤ (n : Int) := by omega
   have HPB : Hid (∀ q : Nat, q = goneP p (n + 1) → q ≤ 2000000) := fun q e => by rw [e]; omega
   clear rowI G0r
   have rowS' := RowS.out
   obtain ⟨hlS, ⟨hSn, hS0⟩ | ⟨gs, capS, curS, hSf, hsB, hsg, hsn, hsc, hss, hst⟩⟩ := rowS'
   ·have hS00 : Hid (storeL p n = []) := List.eq_nil_of_length_eq_zero hS0
    rw [hSn] at cS
    clear hSn hS0 hlS
    go_wp2_with fail
    refine wp_region_game (fun b => b = gI ∨ b = gS) (by kernel_rfl) ?_
    show wpE _ _ _ _ _ _ _ (World.drew _)
    rw [← HWD.out]
    have cI2 := (BD.out.cell (p := ⟨gI, n, none⟩) lI).trans cI
    have cS2 := (BD.out.cell (p := ⟨gS, n, none⟩) lS).trans cS
    clear cI cS
    have hRI := RowI.out
    rw [hvI] at hRI
    have HRI := Lib.hid hRI
    clear hvI HWD hRI
    refine E_mob2s [0, 1, 2, 3, 4, 5, 6, 7] _ _ _ _ (by kernel_rfl) ?_
    simp only [List.map_cons, List.map_nil, List.getElem?_toArray, List.getElem?_cons_succ, List.getElem?_cons_zero, Option.getD_some, List.size_toArray, List.length_cons, List.length_nil, Nat.reduceAdd, Nat.reduceSub]
    repeat (go_big_quiet_step (fail))
    refine wpQuiet_nil ?_
    refine E_loud1 8 _ rfl (by kernel_rfl) ?_
    simp only [List.getElem_toArray, List.getElem_cons_succ, List.getElem_cons_zero]
    obtain ⟨i0, hi0, hz0, hz1', hz2'⟩ := info_parts info_int
    refine wpList_append_own_none rfl _ _ 43 rfl BI 3 i0 1 Tryd.underlying43 hi0 (.slice aI (idleL p n).length kI) (idleL p n).length ((idleL p n).map (Value.int .i64)) rfl HRI.out rfl ?_
    refine ⟨fun b o h => rfl, ?_⟩
    obtain ⟨W5, hW5e⟩ : ∃ W5, W5 = WD := ⟨_, rfl⟩
    have hg5 : WD.grownBy W5 (vsI.getD n undef).ownBlock := by rw [hW5e]; exact ⟨rfl, rfl, rfl, Nat.le_refl _, fun _ _ _ => rfl⟩
    have hPe : placesL p n = idleL p n := by rw [HPL.out, hS00.out, List.append_nil]
    have hown : W5.ownsRow BI 3 1 (.slice aI (idleL p n).length kI) (placesL p n).length ((placesL p n).map (Value.int .i64)) := by rw [hW5e, hPe]; exact HRI.out
    rw [← hPe, ← hW5e]
    rw [← hPe] at hown
    clear hPe hW5e hS00
    simp only [Act.put, List.setIfInBounds_toArray, List.set_cons_succ, List.set_cons_zero]
    refine E_mob2s [9] _ _ _ _ (by kernel_rfl) ?_
    simp only [List.map_cons, List.map_nil, List.getElem?_toArray, List.getElem?_cons_succ, List.getElem?_cons_zero, Option.getD_some, List.size_toArray, List.length_cons, List.length_nil, Nat.reduceAdd, Nat.reduceSub]
    repeat (go_big_quiet_step (fail))
    refine wpQuiet_nil ?_
    refine E_done (by kernel_rfl) ?_ _
    have D5 := Lib.hid ((D.out.grow BD.out).turn hg5 (fun b e => by have := FI.out n hlt b e; omega))
    have RI5 := Lib.hid (((RI.out.later).below BD.out).turn hg5 (fun e => by have := (FI.out n hlt _ e).1; omega) (fun j h1 h2 => RI.out.ne j n (by omega) h2 (Nat.le_refl _) hlt (by omega)))
    have RS5 := Lib.hid (((RS.out.later).below BD.out).turn hg5 (fun e => by have := (FI.out n hlt _ e).2; omega) (fun j h1 h2 => by
     rcases e2 : (vsS.getD j undef).ownBlock with _ | b
     ·exact .inl rfl
     ·refine .inr fun e => ?_
      have := (FS.out j h2 b e2).1
      have := (FI.out n hlt b e.symm).2
      omega))
    have lG0 := (Array.getElem?_eq_some_iff.1 G0.out).1
    have lG1 := (Array.getElem?_eq_some_iff.1 G1.out).1
    have hzD := BD.out.size
    have G05 := Lib.hid ((hg5.block _ (by omega) (fun e => by have := (FI.out n hlt _ e.symm).1; omega)).trans ((BD.out.block _ lG0).trans G0.out))
    have G15 := Lib.hid ((hg5.block _ (by omega) (fun e => by have := (FI.out n hlt _ e.symm).1; omega)).trans ((BD.out.block _ lG1).trans G1.out))
    have hW5 : W4.heap.size ≤ W5.heap.size := by have := hW.out; have := hg5.size; omega
    have HOW := Lib.hid hown
    clear hg5 hown D RI RS G0 G1 BD RowI RowS cI2 cS2 HRI lI lS
    have hPl := HPL2.out n hlt
    obtain ⟨x0, x1, x2, x3, x4, x5, l0w⟩ := cl6 G05.out
    go_wp2_with fail
    obtain ⟨W6, hW6⟩ : ∃ W6, W6 = W5.drew := ⟨_, rfl⟩
    have B6 : Hid (Below W5.heap.size W5 W6) := by rw [hW6]; exact (Below.refl _ _).drew
    refine wp_region_game (fun b => b = w.heap.size ∨ b = gB) (by kernel_rfl) ?_
    show wpE _ _ _ _ _ _ _ (World.drew _)
    rw [← hW6]
    clear hW6
    clear x0 x1 x2 x3 x4 x5
    have D6 := Lib.hid (D5.out.grow B6.out)
    have G06 := Lib.hid ((B6.out.block _ l0w).trans G05.out)
    obtain ⟨x0, x1, x2, x3, x4, x5, -⟩ := cl6 G06.out
    obtain ⟨LN, k1, k2, k3⟩ := D6.out.orig n (Nat.le_refl _) hlt
    have hfn := D6.out.fst n hlt
    rw [if_neg (Nat.lt_irrefl n)] at hfn
    rw [hfn] at k1
    obtain ⟨ac, cc, hvc⟩ := src_sl k2
    have hlc := D6.out.len
    have yv := D6.out.own.cellAt (n * 5) (by omega)
    rw [flat_atB cur n (by omega), hvc] at yv
    rw [hvc] at k2
    have hE6 : Ext w W6 := Ext.below D6.out.below
    have hLNl : LN.length ≤ 1000 := by
     have h := HI60.out n hlt
     rw [← k1] at h
     simpa using h
    have EW := Lib.hid (without_c LN (placesL p n) _ (.slice aI (placesL p n).length kI) w00 W6 (k2.extU hE6) k3 (HE00.out.trans hE6) (OwnI.rd (OwnI.below HOW.out B6.out)) (by omega) (by omega))
    rw [k1] at EW
    clear k1 k2 k3 hvc hE6 hfn
    refine E_mob2s [0, 1, 2, 3, 4, 5, 6, 7, 8, 9] _ _ _ _ (by kernel_rfl) ?_
    simp only [List.map_cons, List.map_nil, List.getElem?_toArray, List.getElem?_cons_succ, List.getElem?_cons_zero, Option.getD_some, List.size_toArray, List.length_cons, List.length_nil, Nat.reduceAdd, Nat.reduceSub]
    repeat (go_big_quiet_step (fail))
    refine wpQuiet_nil ?_
    refine E_loud1 10 _ rfl (by kernel_rfl) ?_
    simp only [List.getElem_toArray, List.getElem_cons_succ, List.getElem_cons_zero]
    go_wp2_with fail
    refine EW.out.mono ?_
    rintro e w7 ⟨v7, L7, rfl, ho7, hl7, ha7, hb7⟩
    obtain ⟨a7, c7, rfl⟩ := row_form ho7
    have hz56 := B6.out.size
    have HO7 : Hid (OwnC w7 W4.heap.size (.slice a7 L7.length c7) L7) := own_base ho7 (by omega)
    have HL7 := Lib.hid hl7
    have HA7 := Lib.hid ha7
    have HB7 := Lib.hid hb7
    have lG0' : w.heap.size < W5.heap.size := l0w
    have HK7 : Hid (Keep (fun b => b = w.heap.size ∨ b = gB) W6 w7) := keep_belU hb7 (fun b hb => by rcases hb with rfl | rfl <;> omega)
    have D7 := Lib.hid (D6.out.grow hb7)
    have RI7 := Lib.hid ((RI5.out.below B6.out).below hb7)
    have RS7 := Lib.hid ((RS5.out.below B6.out).below hb7)
    have G07 := Lib.hid ((hb7.block _ (Nat.lt_of_lt_of_le l0w hz56)).trans G06.out)
    have lG15 := (Array.getElem?_eq_some_iff.1 G15.out).1
    have G17 := Lib.hid ((hb7.block _ (Nat.lt_of_lt_of_le lG15 hz56)).trans ((B6.out.block _ lG15).trans G15.out))
    have hz67 := hb7.size
    have hgr7 : Hid (∀ u : Value, w7.grownBy (w7.setCell ⟨gB, n * 5, none⟩ u) (some gB)) := fun u => but_grown (But.setCell gB (n * 5) w7 u)
    have zc := D7.out.own.cellAt (n * 5) (by omega)
    have hlc7 := D7.out.len
    rw [flat_atB cur n (by omega)] at zc
    have zf := D7.out.own.frozenAt (n * 5)
    generalize (cur.getD n default).2 = zv at zc
    clear yv ho7 hl7 ha7 hb7 EW D5 D6 RI5 RS5 G05 G15 G06 B6
    clear x0 x1 x2 x3 x4 x5
    dsimp only
    go_wp2_with fail
    refine ⟨HK7.out, ?_⟩
    refine E_mob2s [11, 12] _ _ _ _ (by kernel_rfl) ?_
    simp only [List.map_cons, List.map_nil, List.getElem?_toArray, List.getElem?_cons_succ, List.getElem?_cons_zero, Option.getD_some, List.size_toArray, List.length_cons, List.length_nil, Nat.reduceAdd, Nat.reduceSub]
    repeat (go_big_quiet_step (fail))
    refine wpQuiet_nil ?_
    refine E_last 13 _ rfl (by kernel_rfl) ?_
    simp only [List.getElem_toArray, List.getElem_cons_succ, List.getElem_cons_zero]
    go_wp2_with fail
    refine E_done (by kernel_rfl) ?_ _
    have D8 := Lib.hid (D7.out.set hlt HO7.out HL7.out HA7.out (by omega) hgB4)
    have RI8 := Lib.hid (RI7.out.turn (hgr7.out (.slice a7 L7.length c7)) (by simp only [ne_eq, Option.some.injEq]; omega) (fun j h1 h2 => .inr fun e => by have := (FI.out j h2 _ e).2; omega))
    have RS8 := Lib.hid (RS7.out.turn (hgr7.out (.slice a7 L7.length c7)) (by simp only [ne_eq, Option.some.injEq]; omega) (fun j h1 h2 => .inr fun e => by have := (FS.out j h2 _ e).2; omega))
    have G08 := Lib.hid ((Below.heap_setCell w7 ⟨gB, n * 5, none⟩ (.slice a7 L7.length c7) w.heap.size (by simp only; omega)).trans G07.out)
    have G18 := Lib.hid ((Below.heap_setCell w7 ⟨gB, n * 5, none⟩ (.slice a7 L7.length c7) (w.heap.size + 1) (by simp only; omega)).trans G17.out)
    have hW8 : Hid (W4.heap.size ≤ (w7.setCell ⟨gB, n * 5, none⟩ (.slice a7 L7.length c7)).heap.size) := by show _ ≤ _; simp; omega
    clear zc zf
    go_wp2_with fail
    go_roundw
    case rel => exact ⟨n + 1, _, hlt, by rw [HGS.out, Int.natCast_add], by go_num, D8, RI8, RS8, G08, G18, hW8⟩
    case measure => simp [intOf]; omega
   ·rw [hSf] at cS
    have HSR : Hid (∀ j u, ((storeL p n).map (Value.int .i64))[j]? = some u → WD.cell? ((⟨gs, 0, none⟩ : Addr).add j) = some u) := fun j u hj => by
     have hlt' : j < (storeL p n).length := by
      have := (List.getElem?_eq_some_iff.1 hj).1
      simpa using this
     have h2 := RowS.out
     rw [hSf] at h2
     rw [vadd_plain, Nat.zero_add, World.ownsRow.cellAt h2 j (by omega)]
     exact hj
    have hlenI := posU_le (idleI p n) (p.blks.getD n default).ins.length
    have hlenS := posU_le (storeI (p.blks.getD n default).ins) (p.blks.getD n default).ins.length
    have hin := HI60.out n hlt
    have hlI : (idleL p n).length ≤ 1000 := by unfold idleL; omega
    have hlS2 : (storeL p n).length ≤ 1000 := by unfold storeL; omega
    have hBD : BI ≤ WD.heap.size := by have := BD.out.size; have := hW.out; omega
    have lID : gI < WD.heap.size := Nat.lt_of_lt_of_le lI BD.out.size
    have lSD : gS < WD.heap.size := Nat.lt_of_lt_of_le lS BD.out.size
    clear hSf hst hss hsc hsn hsg hsB hlS hlenI hlenS hin
    go_wp2_with fail
    refine wp_region_game (fun b => b = gI ∨ b = gS) (by kernel_rfl) ?_
    show wpE _ _ _ _ _ _ _ (World.drew _)
    rw [← HWD.out]
    have cI2 := (BD.out.cell (p := ⟨gI, n, none⟩) lI).trans cI
    have cS2 := (BD.out.cell (p := ⟨gS, n, none⟩) lS).trans cS
    clear cI cS
    have hRI := RowI.out
    rw [hvI] at hRI
    have HRI := Lib.hid hRI
    clear hvI HWD hRI
    refine E_mob2s [0, 1, 2, 3, 4, 5, 6, 7] _ _ _ _ (by kernel_rfl) ?_
    simp only [List.map_cons, List.map_nil, List.getElem?_toArray, List.getElem?_cons_succ, List.getElem?_cons_zero, Option.getD_some, List.size_toArray, List.length_cons, List.length_nil, Nat.reduceAdd, Nat.reduceSub]
    repeat (go_big_quiet_step (fail))
    refine wpQuiet_nil ?_
    refine E_loud1 8 _ rfl (by kernel_rfl) ?_
    simp only [List.getElem_toArray, List.getElem_cons_succ, List.getElem_cons_zero]
    obtain ⟨i0, hi0, hz0, hz1', hz2'⟩ := info_parts info_int
    refine wpList_append_own _ rfl _ _ 43 rfl BI 3 i0 (.int .i64 0) 1 8 Tryd.underlying43 hi0 hz0 hz1' hz2' rfl (by decide) (.slice aI (idleL p n).length kI) (idleL p n).length ((idleL p n).map (Value.int .i64)) rfl HRI.out
     ⟨gs, 0, none⟩ (storeL p n).length capS ((storeL p n).map (Value.int .i64)) rfl (by simp) HSR.out (fun u hu => by obtain ⟨x, -, rfl⟩ := List.mem_map.1 hu; rfl) (by unfold maxLen; omega) (by omega) hBD ?_
    intro v5 W5 hown' hg5' hnn
    refine ⟨fun b o hb => grown_cell hg5' (by rcases hb with rfl | rfl <;> omega) (fun e => by
     have := FI.out n hlt b (by rw [HVI.out]; exact e)
     rcases hb with rfl | rfl <;> omega), ?_⟩
    have hg5 : WD.grownBy W5 (vsI.getD n undef).ownBlock := by rw [HVI.out]; exact hg5'
    have hPe : placesL p n = idleL p n ++ storeL p n := HPL.out
    have hown : W5.ownsRow BI 3 1 v5 (placesL p n).length ((placesL p n).map (Value.int .i64)) := by
     rw [hPe, List.map_append, List.length_append]; exact hown'
    obtain ⟨a5, c5, rfl⟩ := row_form hown
    clear hPe hown' hg5' hnn
    simp only [Act.put, List.setIfInBounds_toArray, List.set_cons_succ, List.set_cons_zero]
    refine E_mob2s [9] _ _ _ _ (by kernel_rfl) ?_
    simp only [List.map_cons, List.map_nil, List.getElem?_toArray, List.getElem?_cons_succ, List.getElem?_cons_zero, Option.getD_some, List.size_toArray, List.length_cons, List.length_nil, Nat.reduceAdd, Nat.reduceSub]
    repeat (go_big_quiet_step (fail))
    refine wpQuiet_nil ?_
    refine E_done (by kernel_rfl) ?_ _
    have D5 := Lib.hid ((D.out.grow BD.out).turn hg5 (fun b e => by have := FI.out n hlt b e; omega))
    have RI5 := Lib.hid (((RI.out.later).below BD.out).turn hg5 (fun e => by have := (FI.out n hlt _ e).1; omega) (fun j h1 h2 => RI.out.ne j n (by omega) h2 (Nat.le_refl _) hlt (by omega)))
    have RS5 := Lib.hid (((RS.out.later).below BD.out).turn hg5 (fun e => by have := (FI.out n hlt _ e).2; omega) (fun j h1 h2 => by
     rcases e2 : (vsS.getD j undef).ownBlock with _ | b
     ·exact .inl rfl
     ·refine .inr fun e => ?_
      have := (FS.out j h2 b e2).1
      have := (FI.out n hlt b e.symm).2
      omega))
    have lG0 := (Array.getElem?_eq_some_iff.1 G0.out).1
    have lG1 := (Array.getElem?_eq_some_iff.1 G1.out).1
    have hzD := BD.out.size
    have G05 := Lib.hid ((hg5.block _ (by omega) (fun e => by have := (FI.out n hlt _ e.symm).1; omega)).trans ((BD.out.block _ lG0).trans G0.out))
    have G15 := Lib.hid ((hg5.block _ (by omega) (fun e => by have := (FI.out n hlt _ e.symm).1; omega)).trans ((BD.out.block _ lG1).trans G1.out))
    have hW5 : W4.heap.size ≤ W5.heap.size := by have := hW.out; have := hg5.size; omega
    have HOW := Lib.hid hown
    clear hg5 hown D RI RS G0 G1 BD RowI RowS cI2 cS2 HRI lI lS
    have hPl := HPL2.out n hlt
    obtain ⟨x0, x1, x2, x3, x4, x5, l0w⟩ := cl6 G05.out
    go_wp2_with fail
    obtain ⟨W6, hW6⟩ : ∃ W6, W6 = W5.drew := ⟨_, rfl⟩
    have B6 : Hid (Below W5.heap.size W5 W6) := by rw [hW6]; exact (Below.refl _ _).drew
    refine wp_region_game (fun b => b = w.heap.size ∨ b = gB) (by kernel_rfl) ?_
    show wpE _ _ _ _ _ _ _ (World.drew _)
    rw [← hW6]
    clear hW6
    clear x0 x1 x2 x3 x4 x5
    have D6 := Lib.hid (D5.out.grow B6.out)
    have G06 := Lib.hid ((B6.out.block _ l0w).trans G05.out)
    obtain ⟨x0, x1, x2, x3, x4, x5, -⟩ := cl6 G06.out
    obtain ⟨LN, k1, k2, k3⟩ := D6.out.orig n (Nat.le_refl _) hlt
    have hfn := D6.out.fst n hlt
    rw [if_neg (Nat.lt_irrefl n)] at hfn
    rw [hfn] at k1
    obtain ⟨ac, cc, hvc⟩ := src_sl k2
    have hlc := D6.out.len
    have yv := D6.out.own.cellAt (n * 5) (by omega)
    rw [flat_atB cur n (by omega), hvc] at yv
    rw [hvc] at k2
    have hE6 : Ext w W6 := Ext.below D6.out.below
    have hLNl : LN.length ≤ 1000 := by
     have h := HI60.out n hlt
     rw [← k1] at h
     simpa using h
    have EW := Lib.hid (without_c LN (placesL p n) _ (.slice a5 (placesL p n).length c5) w00 W6 (k2.extU hE6) k3 (HE00.out.trans hE6) (OwnI.rd (OwnI.below HOW.out B6.out)) (by omega) (by omega))
    rw [k1] at EW
    clear k1 k2 k3 hvc hE6 hfn
    refine E_mob2s [0, 1, 2, 3, 4, 5, 6, 7, 8, 9] _ _ _ _ (by kernel_rfl) ?_
    simp only [List.map_cons, List.map_nil, List.getElem?_toArray, List.getElem?_cons_succ, List.getElem?_cons_zero, Option.getD_some, List.size_toArray, List.length_cons, List.length_nil, Nat.reduceAdd, Nat.reduceSub]
    repeat (go_big_quiet_step (fail))
    refine wpQuiet_nil ?_
    refine E_loud1 10 _ rfl (by kernel_rfl) ?_
    simp only [List.getElem_toArray, List.getElem_cons_succ, List.getElem_cons_zero]
    go_wp2_with fail
    refine EW.out.mono ?_
    rintro e w7 ⟨v7, L7, rfl, ho7, hl7, ha7, hb7⟩
    obtain ⟨a7, c7, rfl⟩ := row_form ho7
    have hz56 := B6.out.size
    have HO7 : Hid (OwnC w7 W4.heap.size (.slice a7 L7.length c7) L7) := own_base ho7 (by omega)
    have HL7 := Lib.hid hl7
    have HA7 := Lib.hid ha7
    have HB7 := Lib.hid hb7
    have lG0' : w.heap.size < W5.heap.size := l0w
    have HK7 : Hid (Keep (fun b => b = w.heap.size ∨ b = gB) W6 w7) := keep_belU hb7 (fun b hb => by rcases hb with rfl | rfl <;> omega)
    have D7 := Lib.hid (D6.out.grow hb7)
    have RI7 := Lib.hid ((RI5.out.below B6.out).below hb7)
    have RS7 := Lib.hid ((RS5.out.below B6.out).below hb7)
    have G07 := Lib.hid ((hb7.block _ (Nat.lt_of_lt_of_le l0w hz56)).trans G06.out)
    have lG15 := (Array.getElem?_eq_some_iff.1 G15.out).1
    have G17 := Lib.hid ((hb7.block _ (Nat.lt_of_lt_of_le lG15 hz56)).trans ((B6.out.block _ lG15).trans G15.out))
    have hz67 := hb7.size
    have hgr7 : Hid (∀ u : Value, w7.grownBy (w7.setCell ⟨gB, n * 5, none⟩ u) (some gB)) := fun u => but_grown (But.setCell gB (n * 5) w7 u)
    have zc := D7.out.own.cellAt (n * 5) (by omega)
    have hlc7 := D7.out.len
    rw [flat_atB cur n (by omega)] at zc
    have zf := D7.out.own.frozenAt (n * 5)
    generalize (cur.getD n default).2 = zv at zc
    clear yv ho7 hl7 ha7 hb7 EW D5 D6 RI5 RS5 G05 G15 G06 B6
    clear x0 x1 x2 x3 x4 x5
    dsimp only
    go_wp2_with fail
    refine ⟨HK7.out, ?_⟩
    refine E_mob2s [11, 12] _ _ _ _ (by kernel_rfl) ?_
    simp only [List.map_cons, List.map_nil, List.getElem?_toArray, List.getElem?_cons_succ, List.getElem?_cons_zero, Option.getD_some, List.size_toArray, List.length_cons, List.length_nil, Nat.reduceAdd, Nat.reduceSub]
    repeat (go_big_quiet_step (fail))
    refine wpQuiet_nil ?_
    refine E_last 13 _ rfl (by kernel_rfl) ?_
    simp only [List.getElem_toArray, List.getElem_cons_succ, List.getElem_cons_zero]
    go_wp2_with fail
    refine E_done (by kernel_rfl) ?_ _
    have D8 := Lib.hid (D7.out.set hlt HO7.out HL7.out HA7.out (by omega) hgB4)
    have RI8 := Lib.hid (RI7.out.turn (hgr7.out (.slice a7 L7.length c7)) (by simp only [ne_eq, Option.some.injEq]; omega) (fun j h1 h2 => .inr fun e => by have := (FI.out j h2 _ e).2; omega))
    have RS8 := Lib.hid (RS7.out.turn (hgr7.out (.slice a7 L7.length c7)) (by simp only [ne_eq, Option.some.injEq]; omega) (fun j h1 h2 => .inr fun e => by have := (FS.out j h2 _ e).2; omega))
    have G08 := Lib.hid ((Below.heap_setCell w7 ⟨gB, n * 5, none⟩ (.slice a7 L7.length c7) w.heap.size (by simp only; omega)).trans G07.out)
    have G18 := Lib.hid ((Below.heap_setCell w7 ⟨gB, n * 5, none⟩ (.slice a7 L7.length c7) (w.heap.size + 1) (by simp only; omega)).trans G17.out)
    have hW8 : Hid (W4.heap.size ≤ (w7.setCell ⟨gB, n * 5, none⟩ (.slice a7 L7.length c7)).heap.size) := by show _ ≤ _; simp; omega
    clear zc zf
    go_wp2_with fail
    go_roundw
    case rel => exact ⟨n + 1, _, hlt, by rw [HGS.out, Int.natCast_add], by go_num, D8, RI8, RS8, G08, G18, hW8⟩
    case measure => simp [intOf]; omega
  ·obtain rfl : n = p.blks.length := by omega
   obtain ⟨x0, x1, x2, x3, x4, x5, -⟩ := cl6 G0.out
   have y0 := cell_of_heap G1.out 0
   have y1 := cell_of_heap G1.out 1
   have y2 := cell_of_heap G1.out 2
   have y3 := cell_of_heap G1.out 3
   have y4 := cell_of_heap G1.out 4
   have y5 := cell_of_heap G1.out 5
   have f0 := frozen_of_heap G1.out 0
   have f1 := frozen_of_heap G1.out 1
   have f2 := frozen_of_heap G1.out 2
   have f3 := frozen_of_heap G1.out 3
   have f4 := frozen_of_heap G1.out 4
   have f5 := frozen_of_heap G1.out 5
   unfold zProc at y0 y1 y2 y3 y4 y5
   simp only [List.getElem?_toArray, List.getElem?_cons_zero, List.getElem?_cons_succ] at y0 y1 y2 y3 y4 y5
   obtain ⟨oa, oc, hvo', -⟩ := id HVO.out
   subst hvo'
   go_wp2_with fail
   obtain ⟨W9, hW9⟩ : ∃ W9, W9 = (((((wr.setCell ⟨w.heap.size + 1, 0, none⟩ (.string nm)).setCell ⟨w.heap.size + 1, 1, none⟩ (.bool p.void)).setCell ⟨w.heap.size + 1, 2, none⟩ (.int .i64 p.params)).setCell ⟨w.heap.size + 1, 3, none⟩ (.int .i64 p.regs)).setCell ⟨w.heap.size + 1, 4, none⟩ (.slice oa p.objs.length oc)).setCell ⟨w.heap.size + 1, 5, none⟩ (.slice (some ⟨gB, 0, none⟩) p.blks.length cB) := ⟨_, rfl⟩
   rw [← hW9]
   have K9 : But (w.heap.size + 1) wr W9 := by
    rw [hW9]
    exact (((((But.setCell _ _ wr _).trans (But.setCell _ _ _ _)).trans (But.setCell _ _ _ _)).trans (But.setCell _ _ _ _)).trans (But.setCell _ _ _ _)).trans (But.setCell _ _ _ _)
   have g9 : W9.heap[w.heap.size + 1]? = some (.cells #[.string nm, .bool p.void, .int .i64 p.params, .int .i64 p.regs, .slice oa p.objs.length oc, .slice (some ⟨gB, 0, none⟩) p.blks.length cB] 37) := by
    rw [hW9]
    exact heap_setCell_same _ _ 5 _ _ _ (heap_setCell_same _ _ 4 _ _ _ (heap_setCell_same _ _ 3 _ _ _ (heap_setCell_same _ _ 2 _ _ _ (heap_setCell_same _ _ 1 _ _ _ (heap_setCell_same wr _ 0 _ _ _ G1.out)))))
   clear hW9 x0 x1 x2 x3 x4 x5 y0 y1 y2 y3 y4 y5 f0 f1 f2 f3 f4 f5
   obtain ⟨x0, x1, x2, x3, x4, x5, -⟩ := cl6 g9
   have D9 := D.out.turn (but_grown K9) (fun b e => by simp only [Option.some.injEq] at e; subst e; exact ⟨by omega, by omega, by omega⟩)
   refine bodyPost_ret (v := .tuple #[.agg #[.string nm, .bool p.void, .int .i64 p.params, .int .i64 p.regs, .slice oa p.objs.length oc, .slice (some ⟨gB, 0, none⟩) p.blks.length cB], .int .i64 (goneP p p.blks.length : Int)]) (by simp [results, Tryd.results58, go_sem, x0, x1, x2, x3, x4, x5]) rfl ?_
   exact ⟨_, rfl, D9.done (by omega), D9.below⟩
end Go.Proofs.YtnnhobbabcfogaaDoor
