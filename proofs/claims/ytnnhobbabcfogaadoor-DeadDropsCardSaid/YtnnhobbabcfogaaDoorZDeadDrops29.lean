/-
 Contract of slices.DeleteFunc over instructions, with the test that counts; dead's without.
-/
import Derived.Test.YtnnhobbabcfogaaDoorZDeadDrops28
set_option linter.all false
namespace Go.Proofs.YtnnhobbabcfogaaDoor
open Go.ChangeShapes Go.WideShapes Go.ChangeAt Go.RowKit
set_option maxHeartbeats 4000000
set_option maxRecDepth 100000
set_option linter.unusedVariables false

theorem run_clear_many {P : Program} (w : World) (t e ty : TypeId) (z : Value) (ht : P.underlying t = some (.slice e)) (hv : ∀ w, (zeroValue e).run P w = .ok z w) (b o n c : Nat) (h1 : ∀ u ∈ (Builtin.zeroCells z.cells n).toList, u.oneCell' = true) (hn : 0 < n)
  (hc : ∀ j, j < (Builtin.zeroCells z.cells n).toList.length → (w.cell? ⟨b, o + j, none⟩).isSome = true) (hf : ∀ j, j < (Builtin.zeroCells z.cells n).toList.length → w.frozen? ⟨b, o + j, none⟩ = false) :
  (Builtin.clear_ #[t] ty #[.slice (some ⟨b, o, none⟩) n c]).run P w = .ok (.tuple #[]) (w.setCells b o (Builtin.zeroCells z.cells n).toList) := by
 have hst := run_storeCells_cells (P := P) b o (Builtin.zeroCells z.cells n).toList 0 w (by simpa using hc) (by simpa using hf) h1
 simp only [Nat.add_zero] at hst
 obtain ⟨m, rfl⟩ : ∃ m, n = m + 1 := ⟨n - 1, by omega⟩
 simp [Builtin.clear_, run_underlying ht, hv, hst]
def zIns : Value := .agg #[.int .i64 0, .int .i64 0, .int .i64 0, .int .i64 0, .int .i64 0, .int .i64 0, .int .i64 0, .int .i64 0, .int .u32 0, .slice none 0 0, .bool false]
theorem zero_ins (w : World) : (zeroValue 45).run Tryd.prog w = .ok zIns w := by kernel_rfl
theorem zIns_cells : zIns.cells = #[.int .i64 0, .int .i64 0, .int .i64 0, .int .i64 0, .int .i64 0, .int .i64 0, .int .i64 0, .int .i64 0, .int .u32 0, .slice none 0 0, .bool false] := by kernel_rfl
theorem zIns_len (n : Nat) : (Builtin.zeroCells zIns.cells n).toList.length = n * 11 := by
 rw [zIns_cells]
 simp [Builtin.zeroCells]
theorem zIns_one (n : Nat) : ∀ u ∈ (Builtin.zeroCells zIns.cells n).toList, u.oneCell' = true := by
 rw [zIns_cells]
 intro u hu
 unfold Builtin.zeroCells at hu
 simp only [Array.toList_map, List.mem_map] at hu
 obtain ⟨i, -, rfl⟩ := hu
 have h : i % 11 = 0 ∨ i % 11 = 1 ∨ i % 11 = 2 ∨ i % 11 = 3 ∨ i % 11 = 4 ∨ i % 11 = 5 ∨ i % 11 = 6 ∨ i % 11 = 7 ∨ i % 11 = 8 ∨ i % 11 = 9 ∨ i % 11 = 10 := by omega
 have e : (#[Value.int .i64 0, .int .i64 0, .int .i64 0, .int .i64 0, .int .i64 0, .int .i64 0, .int .i64 0, .int .i64 0, .int .u32 0, .slice none 0 0, .bool false] : Array Value).size = 11 := rfl
 rw [e]
 rcases h with h | h | h | h | h | h | h | h | h | h | h <;> rw [h] <;> rfl
/-- one instruction laid over another -/
def layI (w : World) (g o : Nat) (x : In × Value) : World := ((((((((((w.setCell ⟨g, o, none⟩ (.int .i64 x.1.op)).setCell ⟨g, o + 1, none⟩ (.int .i64 x.1.d)).setCell ⟨g, o + 2, none⟩ (.int .i64 x.1.a)).setCell ⟨g, o + 3, none⟩ (.int .i64 x.1.b)).setCell ⟨g, o + 4, none⟩ (.int .i64 x.1.fn)).setCell ⟨g, o + 5, none⟩ (.int .i64 x.1.obj)).setCell ⟨g, o + 6, none⟩ (.int .i64 x.1.off)).setCell ⟨g, o + 7, none⟩ (.int .i64 x.1.size)).setCell ⟨g, o + 8, none⟩ (.int .u32 x.1.num)).setCell ⟨g, o + 9, none⟩ x.2).setCell ⟨g, o + 10, none⟩ (.bool x.1.log)
theorem layI_but (w : World) (g o : Nat) (x : In × Value) : But g w (layI w g o x) :=
 ((((((((((But.setCell g _ w _).trans (But.setCell g _ _ _)).trans (But.setCell g _ _ _)).trans (But.setCell g _ _ _)).trans (But.setCell g _ _ _)).trans (But.setCell g _ _ _)).trans (But.setCell g _ _ _)).trans (But.setCell g _ _ _)).trans (But.setCell g _ _ _)).trans (But.setCell g _ _ _)).trans (But.setCell g _ _ _)
theorem AtS.other {w0 w w' : World} {ab m g : Nat} (h : AtS w0 ab m w) (hb : But g w w') (hg : w0.heap.size ≤ g) (hne : ab ≠ g) : AtS w0 ab m w' := by
 have l := World.block_lt_of_cell? w _ h.cell
 exact ⟨h.below.trans (hb.toBelow hg h.below.size), (World.cell?_of_block (hb.block ab l hne)).trans h.cell, (World.frozen?_of_block (hb.block ab l hne)).trans h.frz⟩
theorem AtS.grow {w0 w w' : World} {ab m : Nat} (h : AtS w0 ab m w) (hb : Below w.heap.size w w') : AtS w0 ab m w' := by
 have l := World.block_lt_of_cell? w _ h.cell
 exact ⟨h.below.trans (hb.mono h.below.size), (World.cell?_of_block (hb.block ab l)).trans h.cell, (World.frozen?_of_block (hb.block ab l)).trans h.frz⟩
theorem keepX_mem {P : List Int} {L : List (In × Value)} {j : Nat} {x : In × Value} (h : x ∈ keepX P L j) : ∃ t, t < j ∧ x = L.getD t default := by
 unfold keepX at h
 simp only [List.mem_map, List.mem_filter, List.mem_range] at h
 obtain ⟨t, ⟨h1, -⟩, rfl⟩ := h
 exact ⟨t, h1, rfl⟩
theorem own_setCells {B g n c sz : Nat} {e : TypeId} : ∀ (zs : List Value) (o : Nat) (w : World) (xs : List Value), w.ownsRow B e sz (.slice (some ⟨g, 0, none⟩) n c) n xs → ∃ xs', (w.setCells g o zs).ownsRow B e sz (.slice (some ⟨g, 0, none⟩) n c) n xs' ∧ xs'.take o = xs.take o
 | [], o, w, xs, h => ⟨xs, h, rfl⟩
 | z :: zs, o, w, xs, h => by
  obtain ⟨xs', h1, h2⟩ := own_setCells zs (o + 1) _ _ (World.ownsRow.stored h o z).1
  refine ⟨xs', h1, ?_⟩
  have := congrArg (List.take o) h2
  rw [List.take_take, List.take_take, Nat.min_eq_left (Nat.le_succ o), List.take_set_of_le (Nat.le_refl o)] at this
  exact this
theorem own_cut {w : World} {B g n c sz : Nat} {e : TypeId} {xs : List Value} (h : w.ownsRow B e sz (.slice (some ⟨g, 0, none⟩) n c) n xs) {i : Nat} (hi : i ≤ n) : w.ownsRow B e sz (.slice (some ⟨g, 0, none⟩) i c) i (xs.take (i * sz)) := by
 obtain ⟨h1, ⟨h2, -⟩ | ⟨g', cap, cur, e1, e2, e3, e4, e5, e6, e7⟩⟩ := h
 ·cases h2
 ·simp only [Value.slice.injEq, Option.some.injEq, Addr.mk.injEq, and_true, true_and] at e1
  obtain ⟨rfl, rfl⟩ := e1
  have hle : i * sz ≤ n * sz := Nat.mul_le_mul_right _ hi
  refine ⟨by rw [List.length_take, h1]; omega, .inr ⟨g, c, cur, rfl, e2, e3, by omega, e5, e6, ?_⟩⟩
  rw [← e7, List.take_take, Nat.min_eq_left hle]
theorem flat_take (L : List (In × Value)) (i : Nat) : (L.flatMap inCells).take (i * 11) = (L.take i).flatMap inCells := by
 induction L generalizing i with
 | nil => simp
 | cons y L ih =>
  cases i with
  | zero => simp
  | succ i =>
   rw [List.take_succ_cons, List.flatMap_cons, List.flatMap_cons, ← ih i, List.take_append]
   have e : (inCells y).length = 11 := rfl
   rw [List.take_of_length_le (by rw [e]; omega), e]
   congr 2
   omega
theorem OwnC.front {w : World} {B g n c : Nat} {cur : List (In × Value)} (h : OwnC w B (.slice (some ⟨g, 0, none⟩) n c) cur) (hn : n = cur.length) {i : Nat} (hi : i ≤ cur.length) (zs : List Value) : OwnC (w.setCells g (i * 11) zs) B (.slice (some ⟨g, 0, none⟩) i c) (cur.take i) := by
 subst hn
 obtain ⟨xs', h1, h2⟩ := own_setCells zs (i * 11) w _ h
 have h3 := own_cut h1 hi
 rw [h2, flat_take] at h3
 unfold OwnC
 rw [List.length_take, Nat.min_eq_left hi]
 exact h3
theorem deletef_c (P : List Int) (pv : Value) (pb ab : Nat) (L : List (In × Value)) (v : Value) (w0 w : World) (hab : w0.heap.size ≤ ab) (hp : w0.cell? ⟨pb, 0, none⟩ = some pv) (hP : RdI w0 pv P) (hPn : P.length ≤ 1000000)
  (hO : OwnC w w0.heap.size v L) (hv : v.ownBlock ≠ some ab) (hA : AtS w0 ab 0 w) (hn : L.length ≤ 1000000) (hargs : ∀ x ∈ L, RdI w0 x.2 x.1.args) :
  Calls Tryd.prog 96 #[v, .func (.func 98) #[] #[.pointer (some ⟨ab, 0, none⟩), .pointer (some ⟨pb, 0, none⟩)]] w fun e w' =>
   ∃ v', e = .returned v' ∧ OwnC w' w0.heap.size v' (keepX P L L.length) ∧ Below w0.heap.size w0 w' := by
 have HX := Lib.hid (findf_c P pv pb ab L v _ w0 w hab hp hP hPn hO hv hA hn)
 have HT : Hid (∀ (y : In) (va : Value) (m : Nat) (w : World), AtS w0 ab m w → m ≤ 1000000 → Calls Tryd.prog 98 #[aggI y va, .pointer (some ⟨ab, 0, none⟩), .pointer (some ⟨pb, 0, none⟩)] w fun e w' => e = .returned (.bool (hasL P m)) ∧ w'.cell? ⟨ab, 0, none⟩ = some (.int .i64 (m : Int)) ∧ w'.frozen? ⟨ab, 0, none⟩ = false ∧ But ab w w') :=
  fun y va m w h hm => wo1_c y va ab pb pv P m w0 w h.below hab hp hP hPn h.cell h.frz hm
 have HARG : Hid (∀ j, j < L.length → RdI w0 (L.getD j default).2 (L.getD j default).1.args) := fun j hj => by
  have e : L.getD j default = L[j] := by simp [List.getD, hj]
  rw [e]; exact hargs _ (List.getElem_mem hj)
 clear hp hP hargs
 unfold aggI at HT
 obtain ⟨a, c, hform⟩ := row_form hO
 subst hform
 have HO := Lib.hid hO
 have HA := Lib.hid hA
 clear hO hA
 go_enter Tryd.func96, Tryd.ntmps96
 go_wp2_with fail
 refine HX.out.mono ?_
 rintro e w1 ⟨r, rfl, hB1, ⟨rfl, hno⟩ | ⟨k, hk, rfl, hpk, hno, hA1⟩⟩
 ·have HN := Lib.hid (keepX_none P L L.length (Nat.le_refl _) hno)
  have HB1 := Lib.hid hB1
  clear hno hB1 HX
  go_wp2_with fail
  go_ret
  rw [HN.out, List.take_length]
  have hO1 := HO.out.keep HB1.out hv
  have hE : Ext w0 w1 := Ext.below (HA.out.below.trans (HB1.out.toBelow hab HA.out.below.size))
  exact ⟨_, rfl, hO1, HA.out.below.trans (HB1.out.toBelow hab HA.out.below.size)⟩
 ·have H := Lib.hid (DelX.start hk hpk hno)
  have hk1 : ((k : Int) == -1) = false := beq_eq_false_iff_ne.2 (by omega)
  have O1 := Lib.hid (HO.out.keep hB1 hv)
  have A1 := Lib.hid hA1
  obtain ⟨g, cp, hf, hcap, hcm, -, hgB, -, -⟩ := O1.out.at hk
  simp only [Value.slice.injEq, true_and] at hf
  obtain ⟨rfl, rfl⟩ := hf
  unfold maxLen at hcm
  have hga : ab ≠ g := fun e => hv (by rw [e]; rfl)
  clear hpk hno hB1 hA1 HX HO HA
  go_wp2_with fail
  go_loopw [5, 6] (fun i j wr => ∃ (ii jj : Nat) (cur : List (In × Value)), i = .int .i64 (ii : Int) ∧ j = .int .i64 (jj : Int) ∧ Hid (DelX P L cur ii jj) ∧ Hid (OwnC wr w0.heap.size (.slice (some ⟨g, 0, none⟩) L.length c) cur) ∧ Hid (AtS w0 ab jj wr)) (fun _ j _ => L.length - (intOf j).toNat)
  case atStart => exact ⟨k, k + 1, L, rfl, by go_num, H, O1, A1⟩
  case round =>
   clear H O1 A1
   obtain ⟨ii, jj, cur, rfl, rfl, D, O, A⟩ := hrel
   have hlt1 := D.out.lt
   have hle1 := D.out.le
   have hcl := D.out.len
   by_cases hlt : jj < L.length
   ·obtain ⟨g', c', hf, -, -, hgw, -, hfz, hcell⟩ := O.out.at (show jj < cur.length by omega)
    simp only [Value.slice.injEq, Option.some.injEq, Addr.mk.injEq, and_true] at hf
    obtain ⟨rfl, -, rfl⟩ := hf
    have d0 := hcell jj (by omega) 0 (by decide)
    have d1 := hcell jj (by omega) 1 (by decide)
    have d2 := hcell jj (by omega) 2 (by decide)
    have d3 := hcell jj (by omega) 3 (by decide)
    have d4 := hcell jj (by omega) 4 (by decide)
    have d5 := hcell jj (by omega) 5 (by decide)
    have d6 := hcell jj (by omega) 6 (by decide)
    have d7 := hcell jj (by omega) 7 (by decide)
    have d8 := hcell jj (by omega) 8 (by decide)
    have d9 := hcell jj (by omega) 9 (by decide)
    have d10 := hcell jj (by omega) 10 (by decide)
    have hbk := D.out.back jj (Nat.le_refl _)
    rw [hbk] at d0 d1 d2 d3 d4 d5 d6 d7 d8 d9 d10
    obtain ⟨sa, sc, hsl, -⟩ := HARG.out jj hlt
    have HKEEP := Lib.hid (D.out.keep hlt)
    have HDROP := Lib.hid (D.out.drop hlt)
    clear hcell
    generalize L.getD jj default = y at *
    obtain ⟨y1, y2⟩ := y
    dsimp only at hsl
    subst hsl
    simp only [inCells, List.getElem?_cons_zero, List.getElem?_cons_succ, Nat.add_zero] at d0 d1 d2 d3 d4 d5 d6 d7 d8 d9 d10
    have hjm : jj ≤ 1000000 := by omega
    have lab : ab < wr.heap.size := World.block_lt_of_cell? wr _ A.out.cell
    obtain ⟨W2, hW2⟩ : ∃ W2, W2 = wr.alloc (.cells #[.int .i64 y1.op, .int .i64 y1.d, .int .i64 y1.a, .int .i64 y1.b, .int .i64 y1.fn, .int .i64 y1.obj, .int .i64 y1.off, .int .i64 y1.size, .int .u32 y1.num, .slice sa y1.args.length sc, .bool y1.log] 45) := ⟨_, rfl⟩
    have H2 : Hid (W2.heap[wr.heap.size]? = some (.cells #[.int .i64 y1.op, .int .i64 y1.d, .int .i64 y1.a, .int .i64 y1.b, .int .i64 y1.fn, .int .i64 y1.obj, .int .i64 y1.off, .int .i64 y1.size, .int .u32 y1.num, .slice sa y1.args.length sc, .bool y1.log] 45)) := by rw [hW2]; exact heap_alloc_new wr _
    have A2 : Hid (AtS w0 ab jj W2) := by rw [hW2]; exact A.out.grow (below_alloc wr _)
    have O2 : Hid (OwnC W2 w0.heap.size (.slice (some ⟨g, 0, none⟩) L.length c) cur) := by rw [hW2]; exact World.ownsRow.alloc O.out _
    have HW2 := Lib.hid hW2
    have l2 := (Array.getElem?_eq_some_iff.1 H2.out).1
    have HTk := Lib.hid (HT.out y1 (.slice sa y1.args.length sc) jj W2 A2.out hjm)
    clear hW2 O A
    cases hh : hasL P (jj : Int)
    ·have HK := Lib.hid (HKEEP.out hh)
     rw [hh] at HTk
     clear hh HKEEP HDROP
     go_wp2_with fail
     rw [← HW2.out]
     refine HTk.out.mono ?_
     rintro e w3 ⟨rfl, h1, h2, h3⟩
     have A3 := Lib.hid (A2.out.next hab h1 h2 h3)
     have O3 := Lib.hid (O2.out.keep h3 (fun e => hga (by simpa [Value.ownBlock] using e.symm)))
     have H3 := Lib.hid ((h3.block _ l2 (by omega)).trans H2.out)
     clear d0 d1 d2 d3 d4 d5 d6 d7 d8 d9 d10 h1 h2 h3 HTk HW2 A2 O2 H2 l2
     obtain ⟨d0, d1, d2, d3, d4, d5, d6, d7, d8, d9, d10, l3⟩ := cl11 H3.out
     have hii : ii < cur.length := by omega
     obtain ⟨g', c', hf, -, -, hgw3, -, hfz3, hcell⟩ := O3.out.at hii
     simp only [Value.slice.injEq, Option.some.injEq, Addr.mk.injEq, and_true] at hf
     obtain ⟨rfl, -, rfl⟩ := hf
     have e0 := hcell ii hii 0 (by decide)
     have e1 := hcell ii hii 1 (by decide)
     have e2 := hcell ii hii 2 (by decide)
     have e3 := hcell ii hii 3 (by decide)
     have e4 := hcell ii hii 4 (by decide)
     have e5 := hcell ii hii 5 (by decide)
     have e6 := hcell ii hii 6 (by decide)
     have e7 := hcell ii hii 7 (by decide)
     have e8 := hcell ii hii 8 (by decide)
     have e9 := hcell ii hii 9 (by decide)
     have e10 := hcell ii hii 10 (by decide)
     clear hcell
     generalize cur.getD ii default = z at e0 e1 e2 e3 e4 e5 e6 e7 e8 e9 e10
     simp only [inCells, List.getElem?_cons_zero, List.getElem?_cons_succ, Nat.add_zero] at e0 e1 e2 e3 e4 e5 e6 e7 e8 e9 e10
     have f0 := hfz3 (ii * 11)
     have f1 := hfz3 (ii * 11 + 1)
     have f2 := hfz3 (ii * 11 + 2)
     have f3 := hfz3 (ii * 11 + 3)
     have f4 := hfz3 (ii * 11 + 4)
     have f5 := hfz3 (ii * 11 + 5)
     have f6 := hfz3 (ii * 11 + 6)
     have f7 := hfz3 (ii * 11 + 7)
     have f8 := hfz3 (ii * 11 + 8)
     have f9 := hfz3 (ii * 11 + 9)
     have f10 := hfz3 (ii * 11 + 10)
     have hL := Lib.hid (O3.out.lay hii (y1, .slice sa y1.args.length sc) hcl.symm)
     have hA4 := Lib.hid (A3.out.other (layI_but w3 g (ii * 11) (y1, .slice sa y1.args.length sc)) hgB hga)
     clear hfz3
     go_wp2_with fail
     go_roundw
     case rel => exact ⟨ii + 1, jj + 1, cur.set ii (y1, .slice sa y1.args.length sc), by go_num, by go_num, HK, hL, hA4⟩
     case measure => simp [intOf]; omega
    ·have HK := Lib.hid (HDROP.out hh)
     rw [hh] at HTk
     clear hh HKEEP HDROP
     go_wp2_with fail
     rw [← HW2.out]
     refine HTk.out.mono ?_
     rintro e w3 ⟨rfl, h1, h2, h3⟩
     have A3 := Lib.hid (A2.out.next hab h1 h2 h3)
     have O3 := Lib.hid (O2.out.keep h3 (fun e => hga (by simpa [Value.ownBlock] using e.symm)))
     clear d0 d1 d2 d3 d4 d5 d6 d7 d8 d9 d10 h1 h2 h3 HTk HW2 A2 O2 H2 l2
     go_wp2_with fail
     go_roundw
     case rel => exact ⟨ii, jj + 1, cur, rfl, by go_num, HK, O3, A3⟩
     case measure => simp [intOf]; omega
   ·obtain rfl : jj = L.length := by omega
    have hii : ii < cur.length := by omega
    obtain ⟨g', c', hf, hcap2, -, hgw, -, hfz, hcell⟩ := O.out.at hii
    simp only [Value.slice.injEq, Option.some.injEq, Addr.mk.injEq, and_true] at hf
    obtain ⟨rfl, -, rfl⟩ := hf
    have hne : ¬ c = ii := by omega
    have hne' : (c == ii) = false := beq_eq_false_iff_ne.2 hne
    have hsome : ∀ q, q < (L.length - ii) * 11 → (wr.cell? ⟨g, ii * 11 + q, none⟩).isSome = true := fun q hq => by
     have h := hcell (ii + q / 11) (by omega) (q % 11) (Nat.mod_lt _ (by decide))
     rw [show (ii + q / 11) * 11 + q % 11 = ii * 11 + q by omega] at h
     rw [h]
     have hr : q % 11 < 11 := Nat.mod_lt _ (by decide)
     generalize q % 11 = r at hr
     have hr2 : r = 0 ∨ r = 1 ∨ r = 2 ∨ r = 3 ∨ r = 4 ∨ r = 5 ∨ r = 6 ∨ r = 7 ∨ r = 8 ∨ r = 9 ∨ r = 10 := by omega
     rcases hr2 with rfl | rfl | rfl | rfl | rfl | rfl | rfl | rfl | rfl | rfl | rfl <;> rfl
    have hcl2 : ∀ ty, (Builtin.clear_ #[38] ty #[.slice (some ⟨g, ii * 11, none⟩) (L.length - ii) (c - ii)]).run Tryd.prog wr = .ok (.tuple #[]) (wr.setCells g (ii * 11) (Builtin.zeroCells zIns.cells (L.length - ii)).toList) := fun ty =>
     run_clear_many wr 38 45 ty zIns Tryd.underlying38 zero_ins g (ii * 11) (L.length - ii) (c - ii) (zIns_one _) (by omega) (fun q hq => hsome q (by rwa [zIns_len] at hq)) (fun q _ => hfz _)
    have HC := Lib.hid hcell
    have HFR := Lib.hid D.out.front
    clear hcell hfz hsome
    generalize (Builtin.zeroCells zIns.cells (L.length - ii)).toList = zs at *
    go_wp2_with fail
    go_ret
    have hfin : Below w0.heap.size w0 (wr.setCells g (ii * 11) zs) := Below.setCells hgB _ _ _ A.out.below
    refine ⟨_, rfl, ?_, hfin⟩
    have hfr := O.out.front hcl.symm (show ii ≤ cur.length by omega) zs
    rw [HFR.out] at hfr
    exact hfr
/-- a list without those at places -/
def withoutL (l : List In) (P : List Int) : List In := ((List.range l.length).filter fun t : Nat => !hasL P (t : Int)).map fun t => l.getD t default
theorem withoutL_keepX (L : List (In × Value)) (P : List Int) : (keepX P L L.length).map Prod.fst = withoutL (L.map Prod.fst) P := by
 unfold keepX withoutL
 rw [List.map_map, List.length_map]
 refine List.map_congr_left fun t ht => ?_
 have h := List.mem_range.1 (List.mem_filter.1 ht).1
 simp [List.getD, h]
theorem Src.extU {w w' : World} {v : Value} {n : Nat} {xs : List Value} (h : Src w v n xs) (he : Ext w w') : Src w' v n xs := by
 rcases h with h | ⟨ad, c, h1, h2, h3, h4⟩
 ·exact .inl h
 ·exact .inr ⟨ad, c, h1, h2, h3, fun j u hj => by obtain ⟨b, o, e, hx⟩ := h4 j u hj; exact ⟨b, o, e, he _ _ hx⟩⟩
theorem without_c (L : List (In × Value)) (P : List Int) (v u : Value) (wb w : World) (hs : Src w v L.length (L.flatMap inCells)) (hi : ∀ x ∈ L, RdI wb x.2 x.1.args) (he : Ext wb w) (hu : RdI w u P) (hn : L.length ≤ 1000000) (hPn : P.length ≤ 1000000) :
  Calls Tryd.prog 76 #[v, u] w fun e w' => ∃ v' L', e = .returned v' ∧ OwnC w' w.heap.size v' L' ∧ L'.map Prod.fst = withoutL (L.map Prod.fst) P ∧ (∀ x ∈ L', RdI wb x.2 x.1.args) ∧ Below w.heap.size w w' := by
 obtain ⟨ua, uc, rfl, -, -, -⟩ := id hu
 have HU := Lib.hid hu
 have HI := Lib.hid hi
 have HS := Lib.hid hs
 have HEX := Lib.hid he
 have hone := in_one L fun x hx => (hi x hx).sl
 clear hu hi hs
 obtain ⟨W0, hW0⟩ : ∃ W0, W0 = w.alloc (.cells #[.slice ua P.length uc] 43) := ⟨_, rfl⟩
 obtain ⟨W1, hW1⟩ : ∃ W1, W1 = W0.alloc (.cells #[.int .i64 (-1)] 3) := ⟨_, rfl⟩
 have B0 : Hid (Below w.heap.size w W0) := by rw [hW0]; exact below_alloc w _
 have B1 : Hid (Below W0.heap.size W0 W1) := by rw [hW1]; exact below_alloc W0 _
 have z0 : W0.heap.size = w.heap.size + 1 := by rw [hW0]; simp
 have H0 : Hid (W0.cell? ⟨w.heap.size, 0, none⟩ = some (.slice ua P.length uc)) := by rw [hW0]; exact cell_of_heap (heap_alloc_new w _) 0
 have H1 : Hid (W1.heap[W0.heap.size]? = some (.cells #[.int .i64 (-1)] 3)) := by rw [hW1]; exact heap_alloc_new W0 _
 have l1 := (Array.getElem?_eq_some_iff.1 H1.out).1
 have HCL : Hid (Calls Tryd.prog 97 #[v] W1 fun e w' => ∃ v', e = .returned v' ∧ w'.ownsRow W1.heap.size 45 11 v' L.length (L.flatMap inCells) ∧ Below W1.heap.size W1 w') :=
  cloneIn v L.length _ W1 (HS.out.extU (Ext.below (B0.out.trans (B1.out.mono B0.out.size)))) (flat_len inCells 11 (fun _ => rfl) L) hn hone
 have HWW : Hid (W1 = (w.alloc (.cells #[.slice ua P.length uc] 43)).alloc (.cells #[.int .i64 (-1)] 3)) := by show _ = _; rw [hW1, hW0]
 clear hW0 hW1 hone
 go_enter Tryd.func76, Tryd.ntmps76
 go_wp2_with fail
 rw [← HWW.out]
 refine HCL.out.mono ?_
 rintro e w2 ⟨v2, rfl, ho, hb2⟩
 have BW : Hid (Below W0.heap.size W0 w2) := B1.out.trans (hb2.mono B1.out.size)
 have hab : w.heap.size + 1 = W0.heap.size := z0.symm
 have A2 : Hid (AtS W0 W0.heap.size 0 w2) := by
  have h := (hb2.block _ l1).trans H1.out
  exact ⟨BW.out, cell_of_heap h 0, frozen_of_heap h 0⟩
 have O2 : Hid (OwnC w2 W0.heap.size v2 L) := by
  obtain ⟨h1, h2 | ⟨g, cap, cur, e1, e2, e3⟩⟩ := ho
  ·exact ⟨h1, .inl h2⟩
  ·exact ⟨h1, .inr ⟨g, cap, cur, e1, by omega, e3⟩⟩
 have hne : v2.ownBlock ≠ some W0.heap.size := fun e => by have := (World.ownsRow.lt ho _ e).1; omega
 have EW : Ext w W0 := Ext.below B0.out
 have HD := Lib.hid (deletef_c P _ w.heap.size W0.heap.size L v2 W0 w2 (Nat.le_refl _) H0.out (HU.out.ext EW) hPn O2.out hne A2.out hn (fun x hx => (HI.out x hx).ext (he.trans EW)))
 rw [← hab] at HD
 have HIK : Hid (∀ x ∈ keepX P L L.length, RdI wb x.2 x.1.args) := fun x hx => by
  obtain ⟨t, ht, rfl⟩ := keepX_mem hx
  have e : L.getD t default = L[t] := by simp [List.getD, ht]
  rw [e]; exact HI.out _ (List.getElem_mem ht)
 obtain ⟨a2, c2, rfl⟩ := row_form ho
 have HAB := Lib.hid hab
 clear ho hb2 HCL A2 O2 hne HU HI HS H0 H1 HWW hab z0
 dsimp only
 go_wp2_with fail
 refine HD.out.mono ?_
 rintro e w3 ⟨v3, rfl, hr3, hb3⟩
 rw [HAB.out] at hb3
 have HR3 := Lib.hid hr3
 have HB3 := Lib.hid (B0.out.trans (hb3.mono B0.out.size))
 obtain ⟨a3, c3, rfl⟩ := row_form hr3
 clear hr3 hb3
 dsimp only
 go_wp2_with fail
 go_ret
 refine ⟨_, keepX P L L.length, rfl, ?_, withoutL_keepX L P, HIK.out, HB3.out⟩
 obtain ⟨h1, h2 | ⟨g, cap, cur, e1, e2, e3⟩⟩ := HR3.out
 ·exact ⟨h1, .inl h2⟩
 ·exact ⟨h1, .inr ⟨g, cap, cur, e1, by have := HAB.out; omega, e3⟩⟩
end Go.Proofs.YtnnhobbabcfogaaDoor
