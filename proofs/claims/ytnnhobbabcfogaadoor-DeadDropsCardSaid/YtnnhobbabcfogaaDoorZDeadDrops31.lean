/-
 dead's Idle walked.
-/
import Derived.Test.YtnnhobbabcfogaaDoorZDeadDrops25
import Derived.Test.YtnnhobbabcfogaaDoorZDeadDrops16
import Derived.Test.YtnnhobbabcfogaaDoorZDeadDrops19
set_option linter.all false
namespace Go.Proofs.YtnnhobbabcfogaaDoor
open Go.ChangeShapes Go.WideShapes Go.ChangeAt Go.RowKit
set_option maxHeartbeats 4000000
set_option maxRecDepth 100000
set_option linter.unusedVariables false
attribute [local go_sem] Oper.semAt_some

/-- behind so many blocks -/
structure LI (w1 : World) (N : Nat) (F : Nat → List Int) (k : Nat) (vs : List Value) (ds : List Nat) (wr : World) : Prop where
 pt : PT w1 wr w1.heap.size (w1.heap.size + 2) N vs (rowT N F k [])
 box : wr.heap[w1.heap.size + 1]? = some (.cells #[.slice (some ⟨w1.heap.size, 0, none⟩) N N] 83)
 nd : ds.Nodup
 df : ∀ D ∈ ds, wr.heap[D]? = some (.deferred (some []))
 ge : ∀ D ∈ ds, w1.heap.size ≤ D
theorem LI.start (w1 : World) (N : Nat) (F : Nat → List Int) (hN : N ≤ maxLen) : LI w1 N F 0 (List.replicate N (.slice none 0 0)) [] ((w1.alloc (.cells (madeCells #[.slice none 0 0] N) 43)).alloc (.cells #[.slice (some ⟨w1.heap.size, 0, none⟩) N N] 83)) := by
 have hb := heap_alloc_new (w1.alloc (.cells (madeCells #[.slice none 0 0] N) 43)) (.cells #[.slice (some ⟨w1.heap.size, 0, none⟩) N N] 83)
 rw [World.size_alloc] at hb
 refine ⟨?_, hb, List.nodup_nil, (fun D hD => by cases hD), (fun D hD => by cases hD)⟩
 refine ⟨(below_alloc _ _).alloc (by simp) _, World.ownsRow.alloc (madeS w1 N hN) _, fun j hj => ?_, fun i j hi hj hij => .inl ?_, Nat.le_refl _, by omega, by simp, rowT_len _ _ _ _⟩
 ·rw [rowT_0]
  have e1 : (List.replicate N (Value.slice none 0 0)).getD j undef = .slice none 0 0 := by simp [List.getD, List.getElem?_replicate, hj]
  have e2 : (List.replicate N ([] : List Int)).getD j [] = [] := by simp only [List.getD, List.getElem?_replicate]; split <;> rfl
  rw [e1, e2]
  exact OwnI.nil _ _
 ·have e1 : (List.replicate N (Value.slice none 0 0)).getD i undef = .slice none 0 0 := by simp [List.getD, List.getElem?_replicate, hi]
  rw [e1]; rfl
theorem own_marks {w w' : World} {base n sz : Nat} {e : TypeId} {v : Value} {xs : List Value} {ds : List Nat} (h : w.ownsRow base e sz v n xs) (hd : ∀ D ∈ ds, w.heap[D]? = some (.deferred (some []))) (h2 : ∀ b, b ∉ ds → w'.heap[b]? = w.heap[b]?) : w'.ownsRow base e sz v n xs := by
 obtain ⟨h1, h3 | ⟨g, cap, cur, e1, e2, e3, e4⟩⟩ := h
 ·exact ⟨h1, .inl h3⟩
 ·refine ⟨h1, .inr ⟨g, cap, cur, e1, e2, (h2 g fun hg => ?_).trans e3, e4⟩⟩
  rw [hd g hg] at e3
  cases e3
theorem PT.marks {w1 wr w' : World} {gP B n : Nat} {vs : List Value} {rows : List (List Int)} {ds : List Nat} (h : PT w1 wr gP B n vs rows) (hd : ∀ D ∈ ds, wr.heap[D]? = some (.deferred (some []))) (hg : ∀ D ∈ ds, w1.heap.size ≤ D)
  (h1 : w'.os = wr.os ∧ w'.tape = wr.tape ∧ w'.output = wr.output ∧ w'.heap.size = wr.heap.size) (h2 : ∀ b, b ∉ ds → w'.heap[b]? = wr.heap[b]?) : PT w1 w' gP B n vs rows :=
 ⟨⟨h1.1.trans h.below.os, h1.2.1.trans h.below.tape, h1.2.2.1.trans h.below.output, by rw [h1.2.2.2]; exact h.below.size, fun b hb => (h2 b fun hD => by have := hg b hD; omega).trans (h.below.block b hb)⟩,
   own_marks h.tab hd h2, fun j hj => own_marks (h.row j hj) hd h2, h.ne, h.g0, h.gB, by rw [h1.2.2.2]; exact h.Bw, h.len⟩
theorem PT.base {w w1 wr : World} {gP B n : Nat} {vs : List Value} {rows : List (List Int)} (h : PT w1 wr gP B n vs rows) (hb : Below w.heap.size w w1) : PT w wr gP B n vs rows :=
 ⟨hb.trans (h.below.mono hb.size), h.tab, h.row, h.ne, Nat.le_trans hb.size h.g0, h.gB, h.Bw, h.len⟩
theorem defI_pure {i : In} (h : pureI i = true) : defI i = i.d := by
 unfold pureI at h
 rw [decide_eq_true_eq] at h
 unfold defI
 rw [if_pos (by omega)]
theorem idle_c (p : Pr) (V : Value) (w : World) (hP : PrV w V p) (hp0 : 0 < p.blks.length) (hreg : I64 p.regs) (hR : p.regs ≤ 1000) (hlen : p.blks.length ≤ 1000)
  (hin : ∀ n, n < p.blks.length → (p.blks.getD n default).ins.length ≤ 1000 ∧ ∀ k, k < (p.blks.getD n default).ins.length → ((p.blks.getD n default).ins.getD k default).args.length ≤ 1000)
  (hpure : ∀ n, n < p.blks.length → ∀ k, k < (p.blks.getD n default).ins.length → pureI ((p.blks.getD n default).ins.getD k default) = true → 0 ≤ ((p.blks.getD n default).ins.getD k default).d ∧ ((p.blks.getD n default).ins.getD k default).d < p.regs) :
  Calls Tryd.prog 57 #[V] w fun e w' => ∃ gP B vs, e = .returned (.slice (some ⟨gP, 0, none⟩) p.blks.length p.blks.length) ∧ PT w w' gP B p.blks.length vs ((List.range p.blks.length).map (idleL p)) := by
 have EL : Hid (∀ w', Ext w w' → Calls Tryd.prog 72 #[V] w' (LivePost p w')) := fun w' he => live_c p V w' (hP.ext he) hlen hin hR hreg
 have HIN := Lib.hid hin
 have HPU := Lib.hid hpure
 clear hin hpure
 obtain ⟨nm, vo, vb, rfl, -, hvb⟩ := hP
 have hvb' := hvb
 obtain ⟨a, c, rfl, hc1, hc2, -⟩ := hvb'
 unfold maxLen at hc2
 have HVB := Lib.hid hvb
 clear hvb
 have hmk := run_make_row' (P := Tryd.prog) 83 43 (.slice none 0 0) 24 Tryd.underlying83 info_sl rfl .i64 .i64 p.blks.length (by omega) (by omega)
 refine callsIn_wide.1 (callsIn_of_wp_marks (n := 6) Tryd.func57 rfl trivial ?_ rfl)
 simp only [Tryd.ntmps57, List.size_toArray, List.length_cons, List.length_nil, Nat.reduceAdd, Nat.reduceSub, Array.replicate_succ, Array.replicate_zero, List.push_toArray, List.append_toArray, List.nil_append, List.cons_append]
 refine wpIn_wide.2 ?_
 obtain ⟨WA, hWA⟩ : ∃ WA, WA = w.alloc (.cells #[.string nm, .bool p.void, .int .i64 p.params, .int .i64 p.regs, vo, .slice a p.blks.length c] 37) := ⟨_, rfl⟩
 have H0 : Hid (WA.heap[w.heap.size]? = some (.cells #[.string nm, .bool p.void, .int .i64 p.params, .int .i64 p.regs, vo, .slice a p.blks.length c] 37)) := by rw [hWA]; exact heap_alloc_new w _
 have BA : Hid (Below w.heap.size w WA) := by rw [hWA]; exact below_alloc w _
 have HWA := Lib.hid hWA
 clear hWA
 have lA := (Array.getElem?_eq_some_iff.1 H0.out).1
 go_wp2_with fail
 rw [← HWA.out]
 refine (EL.out WA (Ext.below BA.out)).mono ?_
 rintro e w1 ⟨kk, vi, vt, gi, go, rfl, hgr, M⟩
 have M := Lib.hid M
 have HL : Hid (∀ n r : Nat, n < p.blks.length → r < regsN p → ((lvN p kk).lo.getD n []).getD r false = liveP p n (p.blks.getD n default).ins.length r) := fun n r hn hr => (lv_live hgr hn hr).2
 clear hgr HWA EL
 have H0 : Hid (w1.heap[w.heap.size]? = some (.cells #[.string nm, .bool p.void, .int .i64 p.params, .int .i64 p.regs, vo, .slice a p.blks.length c] 37)) := (M.out.below.block _ lA).trans H0.out
 have B1 : Hid (Below w.heap.size w w1) := BA.out.trans (M.out.below.mono BA.out.size)
 clear BA
 obtain ⟨x0, x1, x2, x3, x4, x5, l0⟩ := cl6 H0.out
 obtain ⟨tj, co, rfl, ho1, ho2, hto⟩ := M.out.atO hp0
 have HTO := Lib.hid hto
 unfold maxLen at ho2
 clear hto
 go_wp2_with fail
 clear hmk
 obtain ⟨W1, hW1⟩ : ∃ W1, W1 = (w1.alloc (.cells (madeCells #[.slice none 0 0] p.blks.length) 43)).alloc (.cells #[.slice (some ⟨w1.heap.size, 0, none⟩) p.blks.length p.blks.length] 83) := ⟨_, rfl⟩
 have I0 : Hid (LI w1 p.blks.length (idleL p) 0 (List.replicate p.blks.length (.slice none 0 0)) [] W1) := by rw [hW1]; exact LI.start w1 _ _ (by unfold maxLen; omega)
 rw [← hW1]
 clear hW1 x0 x1 x2 x3 x4 x5
 refine wp_loop (fun a' w' => ∃ (k : Nat) (vs : List Value) (ds : List Nat) (u6 u7 u8 u9 u10 u24 u25 u26 u27 u28 u29 u30 u31 u32 u33 u34 u35 u36 u37 u38 u39 u40 u41 u42 u43 u44 u45 u46 u47 u48 u49 u50 u51 u52 u53 u54 u55 u56 u57 u58 u59 u60 u61 u62 u63 u64 u65 u66 u67 u68 u69 u70 u71 u72 u73 u74 u75 u76 u77 u78 u79 u80 u81 u82 : Value), k ≤ p.blks.length ∧ Hid (LI w1 p.blks.length (idleL p) k vs ds w') ∧ a' = { tmps := #[.agg #[.string nm, .bool p.void, .int .i64 p.params, .int .i64 p.regs, vo, .slice a p.blks.length c], .pointer (some ⟨w.heap.size, 0, none⟩), .slice none 0 0, vi, .slice (some ⟨tj, 0, none⟩) p.blks.length co, .pointer (some ⟨w1.heap.size + 1, 0, none⟩), u6, u7, u8, u9, u10, .tuple #[vi, .slice (some ⟨tj, 0, none⟩) p.blks.length co], .agg #[.string nm, .bool p.void, .int .i64 p.params, .int .i64 p.regs, vo, .slice a p.blks.length c], .tuple #[vi, .slice (some ⟨tj, 0, none⟩) p.blks.length co], vi, .slice (some ⟨tj, 0, none⟩) p.blks.length co, .pointer (some ⟨w.heap.size, 5, none⟩), .slice a p.blks.length c, .int .i64 (p.blks.length : Int), .slice (some ⟨w1.heap.size, 0, none⟩) p.blks.length p.blks.length, .pointer (some ⟨w.heap.size, 5, none⟩), .slice a p.blks.length c, .int .i64 (p.blks.length : Int), .int .i64 (k : Int), u24, u25, u26, u27, u28, u29, u30, u31, u32, u33, u34, u35, u36, u37, u38, u39, u40, u41, u42, u43, u44, u45, u46, u47, u48, u49, u50, u51, u52, u53, u54, u55, u56, u57, u58, u59, u60, u61, u62, u63, u64, u65, u66, u67, u68, u69, u70, u71, u72, u73, u74, u75, u76, u77, u78, u79, u80, u81, u82], defers := marksD ds })
  (fun a' _ => p.blks.length - (intOf (a'.tmps.getD 23 undef)).toNat) ⟨0, _, [], _, _, _, _, _, _, _, _, _, _, _, _, _, _, _, _, _, _, _, _, _, _, _, _, _, _, _, _, _, _, _, _, _, _, _, _, _, _, _, _, _, _, _, _, _, _, _, _, _, _, _, _, _, _, _, _, _, _, _, _, _, _, _, _, Nat.zero_le _, I0, rfl⟩ ?_
 rintro a' wr ⟨k, vs, ds, u6, u7, u8, u9, u10, u24, u25, u26, u27, u28, u29, u30, u31, u32, u33, u34, u35, u36, u37, u38, u39, u40, u41, u42, u43, u44, u45, u46, u47, u48, u49, u50, u51, u52, u53, u54, u55, u56, u57, u58, u59, u60, u61, u62, u63, u64, u65, u66, u67, u68, u69, u70, u71, u72, u73, u74, u75, u76, u77, u78, u79, u80, u81, u82, hk, HI, rfl⟩
 by_cases hlt : k < p.blks.length
 ·have hE : Ext w wr := (Ext.below B1.out).trans (Ext.below HI.out.pt.below)
  obtain ⟨bb, ob, vi2, rfl, hvi, c0, c1, c2, c3, c4⟩ := (RdBks.at HVB.out).2 k hlt
  replace c0 := hE _ _ c0
  replace c1 := hE _ _ c1
  replace c2 := hE _ _ c2
  replace c3 := hE _ _ c3
  replace c4 := hE _ _ c4
  have HV := Lib.hid hvi
  have hvi' := hvi
  obtain ⟨ai, ci, rfl, hi1, hi2, -⟩ := hvi'
  unfold maxLen at hi2
  have HT := Lib.hid (HTO.out k hlt)
  have HRO := Lib.hid (M.out.rowO k hlt)
  have HLk := Lib.hid (fun r => HL.out k r hlt)
  have hLk := (HIN.out k hlt).1
  have HAR := Lib.hid ((HIN.out k hlt).2)
  have HPk := Lib.hid (HPU.out k hlt)
  have hrl : ((lvN p kk).lo.getD k []).length = regsN p := HRO.out.cellAt.1.symm
  have HV2 : Hid (∀ r : Nat, r < regsN p → ∀ j, (backK ((lvN p kk).lo.getD k []) ((p.blks.getD k default).ins.drop j)).getD r false = liveP p k j r) := fun r hr j => live_at (p := p) (n := k) (by rw [hrl]; exact HLk.out) j (by rw [hrl]; exact hr)
  have hz1 : w1.heap.size + 2 ≤ wr.heap.size := HI.out.pt.Bw
  have l0w : w.heap.size < wr.heap.size := by omega
  unfold rowV at HT
  generalize go k = g2 at *
  generalize (lvN p kk).lo.getD k [] = lo at *
  have EE : Hid (∀ (W3 : World) (l : Nat) (J Jx : List EX → World → Prop), Below w.heap.size w W3 → RowB W3 g2 (regsN p) (regsN p) lo → ∀ bp bn bo : Nat, W3.cell? ⟨bp, 5, none⟩ = some (.slice (some ⟨bb, ob, none⟩) p.blks.length c) → W3.cell? ⟨bn, 0, none⟩ = some (.int .i64 (k : Int)) → W3.cell? ⟨bo, 0, none⟩ = some (.slice (some ⟨g2, 0, none⟩) (regsN p) (regsN p)) →
    (∀ s A B, J s A → StE W3.heap.size s A B → J s B) →
    (∀ pre x W, J pre W → PrE w W3.heap.size (p.blks.getD k default).ins lo (regsN p) pre x W → YieldAt Fence.wide 4 Tryd.prog l (encE (regsN p) x) W fun e W' => (e = .returned (.bool true) ∧ J (pre ++ [x]) W' ∧ KpE w x W W') ∨ (e = .returned (.bool false) ∧ Jx (pre ++ [x]) W')) →
    J [] W3 → CallsIn Fence.wide 5 Tryd.prog 94 #[.func (.yield l) #[] #[], .pointer (some ⟨bn, 0, none⟩), .pointer (some ⟨bp, 0, none⟩), .pointer (some ⟨bo, 0, none⟩)] W3 fun e W' =>
     (∃ v, e = .returned v) ∧ ((∃ xs, xs.length = (p.blks.getD k default).ins.length ∧ J xs W') ∨ ∃ pre, Jx pre W')) :=
   fun W3 l J Jx hb hr bp bn bo y5 yn yo hJ hY h0 => each1_c p k lo (regsN p) (regsN p) g2 bp bn bo 5 l _ w W3 HVB.out hlt HAR.out (by omega) (by rw [hrl]; unfold regsN; omega) (by omega) hb y5 yn yo hr J Jx hJ hY h0
  have HID : Hid (∀ i, idleI p k i = (pureI ((p.blks.getD k default).ins.getD i default) && !liveP p k (i + 1) ((p.blks.getD k default).ins.getD i default).d)) := fun i => rfl
  have HIL : Hid (idleL p k = posU (idleI p k) (p.blks.getD k default).ins.length) := rfl
  clear hvi hE HLk HAR
  obtain ⟨x0, x1, x2, x3, x4, x5, -⟩ := cl6 ((HI.out.pt.below.block _ l0).trans H0.out)
  generalize p.blks.getD k default = K at *
  go_wp2_with fail
  obtain ⟨W2, hW2⟩ : ∃ W2, W2 = ((wr.alloc (.cells #[.int .i64 (k : Int)] 3)).alloc (.cells #[.slice ai K.ins.length ci, .int .i64 K.fin, .int .i64 K.a, .int .i64 K.to, .int .i64 K.els] 40)).drew := ⟨_, rfl⟩
  have B2 : Hid (Below wr.heap.size wr W2) := by rw [hW2]; exact ((below_alloc wr _).alloc (by simp) _).drew
  have G6 : Hid (W2.heap[wr.heap.size]? = some (.cells #[.int .i64 (k : Int)] 3)) := by
   rw [hW2]
   exact ((below_alloc _ _).block _ (by simp)).trans (heap_alloc_new wr _)
  have G7 : Hid (W2.heap[wr.heap.size + 1]? = some (.cells #[.slice ai K.ins.length ci, .int .i64 K.fin, .int .i64 K.a, .int .i64 K.to, .int .i64 K.els] 40)) := by
   rw [hW2]
   have := heap_alloc_new (wr.alloc (.cells #[.int .i64 (k : Int)] 3)) (.cells #[.slice ai K.ins.length ci, .int .i64 K.fin, .int .i64 K.a, .int .i64 K.to, .int .i64 K.els] 40)
   rwa [World.size_alloc] at this
  have q1 := (Array.getElem?_eq_some_iff.1 G6.out).1
  have q2 := (Array.getElem?_eq_some_iff.1 G7.out).1
  have q3 : w.heap.size < W2.heap.size := by omega
  refine wp_region_game (fun b => b < W2.heap.size) (by kernel_rfl) ?_
  show wpE _ _ _ _ _ _ _ (World.drew _)
  rw [← hW2]
  clear hW2 x0 x1 x2 x3 x4 x5 c0 c1 c2 c3 c4
  obtain ⟨x0, x1, x2, x3, x4, x5, -⟩ := cl6 ((B2.out.block _ l0w).trans ((HI.out.pt.below.block _ l0).trans H0.out))
  have yk := cell_of_heap G6.out 0
  simp only [List.getElem?_toArray, List.getElem?_cons_zero] at yk
  have ltj : tj < w1.heap.size := World.block_lt_of_cell? w1 _ HT.out
  have ltj2 : tj < wr.heap.size := by omega
  have q4 : tj < W2.heap.size := by omega
  have yt := (B2.out.cell (p := ⟨tj, k, none⟩) ltj2).trans ((HI.out.pt.below.cell (p := ⟨tj, k, none⟩) ltj).trans HT.out)
  have hk0 : (0 : Int) ≤ (k : Int) := by omega
  refine E_mob2s [0, 1, 2, 3, 4, 5] _ _ _ _ (by kernel_rfl) ?_
  simp only [List.map_cons, List.map_nil, List.getElem?_toArray, List.getElem?_cons_succ, List.getElem?_cons_zero, Option.getD_some, List.size_toArray, List.length_cons, List.length_nil, Nat.reduceAdd, Nat.reduceSub]
  repeat (go_big_quiet_step (fail))
  refine wpQuiet_nil ?_
  refine E_loud1 6 _ rfl (by kernel_rfl) ?_
  simp only [List.getElem_toArray, List.getElem_cons_succ, List.getElem_cons_zero]
  go_wp2_with fail
  refine (each_c p nm vo _ _ _ _ _ _).mono ?_
  rintro e w4 ⟨rfl, hw4⟩
  have BN : Hid (BnE W2 (k : Int) p nm vo (.slice (some ⟨bb, ob, none⟩) p.blks.length c) (.slice (some ⟨g2, 0, none⟩) (regsN p) (regsN p)) w4) := by rw [hw4]; exact BnE.new _ _ _ _ _ _ _
  clear hw4
  go_wp2_with fail
  refine ⟨keep_belU BN.out.below (fun b hb => hb), ?_⟩
  refine E_done (by kernel_rfl) ?_ _
  clear x0 x1 x2 x3 x4 x5 yk yt hk0
  go_wp2_with fail
  have g5 := cell_of_heap BN.out.b0 5
  have gn := cell_of_heap BN.out.b1 0
  have go := cell_of_heap BN.out.b2 0
  simp only [List.getElem?_toArray, List.getElem?_cons_zero, List.getElem?_cons_succ] at g5 gn go
  have hz4 : W2.heap.size ≤ w4.heap.size := BN.out.below.size
  have B4 : Hid (Below wr.heap.size wr w4) := B2.out.trans (BN.out.below.mono (by omega))
  have hrw : wr.heap.size ≤ w4.heap.size := by omega
  have hww : w.heap.size ≤ w4.heap.size := by omega
  have hgp : w1.heap.size < wr.heap.size := by omega
  have hgp4 : w1.heap.size < w4.heap.size := by omega
  have BW4 : Hid (Below w.heap.size w w4) := B1.out.trans (HI.out.pt.below.trans (B4.out.mono HI.out.pt.below.size) |>.mono B1.out.size)
  have HR4 : Hid (RowB w4 g2 (regsN p) (regsN p) lo) := by
   have hg2 := HRO.out.cellAt.2.2.2.2.2.2
   exact HRO.out.of_block ((B4.out.block _ (by omega)).trans (HI.out.pt.below.block _ hg2))
  have D4 : Hid (∀ D ∈ ds, D < wr.heap.size ∧ ∃ c, w4.heap[D]? = some (.deferred c)) := fun D hD => by
   have h := HI.out.df D hD
   have hl := (Array.getElem?_eq_some_iff.1 h).1
   exact ⟨hl, _, (B4.out.block _ hl).trans h⟩
  have HGD : Hid (w1.heap.size ∉ ds) := fun hD => by
   obtain ⟨cur, t, f, hc⟩ := own_cells HI.out.pt.tab rfl
   rw [HI.out.df _ hD] at hc
   cases hc
  have I4 : Hid (IdI w1 w4 w1.heap.size wr.heap.size p.blks.length ds (idleL p) k (posD (idleI p k) K.ins.length 0) [] vs w4) :=
   ⟨HI.out.pt.grow B4.out, fun i hi b e => .inl (World.ownsRow.lt (HI.out.pt.row i hi) b e).2, fun b _ _ => rfl, Nat.le_refl _⟩
  have EE2 := Lib.hid (fun (r : Loop) (J Jx : List EX → World → Prop) hJ hY h0 => EE.out (loopW w4 r) (w4.heap.size + 1) J Jx (BW4.out.trans ((loopW_below w4 r).mono hww)) (HR4.out.below (loopW_below w4 r)) W2.heap.size (W2.heap.size + 1) (W2.heap.size + 2)
   ((Below.cell (loopW_below w4 r) (World.block_lt_of_cell? w4 _ g5)).trans g5) ((Below.cell (loopW_below w4 r) (World.block_lt_of_cell? w4 _ gn)).trans gn) ((Below.cell (loopW_below w4 r) (World.block_lt_of_cell? w4 _ go)).trans go) hJ hY h0)
  simp only [loopW_size] at EE2
  have G4 : Hid (w4.heap[w1.heap.size + 1]? = some (.cells #[.slice (some ⟨w1.heap.size, 0, none⟩) p.blks.length p.blks.length] 83)) := (B4.out.block _ (by omega)).trans HI.out.box
  have G6 : Hid (w4.heap[wr.heap.size]? = _) := (BN.out.below.block _ q1).trans G6.out
  have G7 : Hid (w4.heap[wr.heap.size + 1]? = _) := (BN.out.below.block _ q2).trans G7.out
  have q5 : wr.heap.size + 1 < w4.heap.size := by omega
  have HND := Lib.hid HI.out.nd
  have HDF : Hid (∀ D ∈ ds, w4.heap[D]? = some (.deferred (some []))) := fun D hD => (B4.out.block _ (D4.out D hD).1).trans (HI.out.df D hD)
  have HGE := Lib.hid HI.out.ge
  clear g5 gn go EE BN HR4 HI M HTO HIN HPU HT B2 B4 HRO HVB HL BW4
  refine (wpIn_wide (n := 6)).1 ?_
  refine wp_rangeOver (n := 6) (gf := 94) rfl (enters_of Tryd.func94 (by kernel_rfl) rfl) (encE (regsN p)) (fun _ => rfl) (StE (w4.heap.size + 1 + 1)) (KpE w) (PrE w (w4.heap.size + 1 + 1) K.ins lo (regsN p)) (fun xs => xs.length = K.ins.length)
   (fun s A B h b hb hA => h.blocks (by omega) hA) (fun _ _ _ _ h k => h.trans k) (fun pre x W o h A => KpE.put A o (by omega) (by have := h.g; omega)) (fun pre x W o h => h.put o (by omega) (by omega))
   (fun r J Jx hJ hY h0 => EE2.out r J Jx hJ hY h0)
   (fun pre W => ∃ vs', IdI w1 w4 w1.heap.size wr.heap.size p.blks.length ds (idleL p) k (posD (idleI p k) K.ins.length pre.length) pre vs' W) (fun _ _ _ => False)
   (fun s W o h => by obtain ⟨vs', h⟩ := h; exact ⟨vs', h.put o hgp4 (Nat.le_refl _) hrw⟩) (fun _ _ _ _ h => h) (fun s A B h hs => by obtain ⟨vs', h⟩ := h; exact ⟨vs', h.st hs hgp4 (Nat.le_refl _) hrw⟩)
   (fun r => ⟨vs, I4.out.below (loopW_below w4 r)⟩) ?_ ?assign ?body ?done (fun _ _ _ h => h.elim)
  case assign =>
   intro l x W K hK
   dsimp only [encE]
   gi_wp2
   exact hK
  case body =>
   rintro l pre x W ⟨vs', hi⟩ hpr
   clear I4 EE2
   have HIW := Lib.hid hi
   have HPW := Lib.hid hpr
   clear hi hpr
   have hx : x.i < K.ins.length := by have := HPW.out.i; have := HPW.out.len; omega
   have hxg : x.g < W.heap.size := HPW.out.row.cellAt.2.2.2.2.2.2
   have hxh := HPW.out.g
   have hE : Ext w W := (Ext.below B1.out).trans (Ext.below HIW.out.pt.below)
   obtain ⟨bi, oi, vx, rfl, hbw, hva, d0, d1, d2, d3, d4, d5, d6, d7, d8, d9, d10⟩ := (RdIns.at HV.out).2 x.i hx
   obtain ⟨sa, sc, rfl, -⟩ := hva
   replace d0 := hE _ _ d0
   replace d1 := hE _ _ d1
   replace d2 := hE _ _ d2
   replace d3 := hE _ _ d3
   replace d4 := hE _ _ d4
   replace d5 := hE _ _ d5
   replace d6 := hE _ _ d6
   replace d7 := hE _ _ d7
   replace d8 := hE _ _ d8
   replace d9 := hE _ _ d9
   replace d10 := hE _ _ d10
   have HDD := Lib.hid (HID.out x.i)
   have HPP := Lib.hid (HPk.out x.i hx)
   have HXI : Hid (K.ins.length - 1 - pre.length = x.i) := HPW.out.i.symm
   have HNO : Hid (idleI p k x.i = false → posD (idleI p k) K.ins.length (pre ++ [x]).length = posD (idleI p k) K.ins.length pre.length) := fun h => by rw [List.length_append]; exact posD_no (by rw [HXI.out]; exact h)
   have HYE : Hid (idleI p k x.i = true → posD (idleI p k) K.ins.length (pre ++ [x]).length = posD (idleI p k) K.ins.length pre.length ++ [(x.i : Int)]) := fun h => by
    rw [List.length_append]
    have := @posD_yes (idleI p k) K.ins.length pre.length (by rw [HXI.out]; exact h)
    rw [HXI.out] at this
    exact this
   have HOFF := Lib.hid (HIW.out.off HPW.out hrw)
   have c7 := cell_of_heap ((HIW.out.keep _ q5 (.inr (.inl (Nat.le_succ _)))).trans G7.out) 0
   simp only [List.getElem?_toArray, List.getElem?_cons_zero] at c7
   have hl1 : w4.heap.size < W.heap.size := by omega
   have hl2 : w4.heap.size + 1 < W.heap.size := by omega
   clear hE
   generalize K.ins.getD x.i default = y at *
   have hxl : x.i < 1000 := by omega
   cases hp : pureI y
   ·have HN := Lib.hid (HNO.out (by rw [HDD.out, hp]; rfl))
    have HDEF : Hid (∀ w, Calls Tryd.prog 19 #[.agg #[.int .i64 y.op, .int .i64 y.d, .int .i64 y.a, .int .i64 y.b, .int .i64 y.fn, .int .i64 y.obj, .int .i64 y.off, .int .i64 y.size, .int .u32 y.num, .slice sa y.args.length sc, .bool y.log]] w fun e w' => e = .returned (.int .i64 (defI y)) ∧ Below w.heap.size w w') := def_v y _
    have HPUR : Hid (∀ w, Calls Tryd.prog 24 #[.agg #[.int .i64 y.op, .int .i64 y.d, .int .i64 y.a, .int .i64 y.b, .int .i64 y.fn, .int .i64 y.obj, .int .i64 y.off, .int .i64 y.size, .int .u32 y.num, .slice sa y.args.length sc, .bool y.log]] w fun e w' => e = .returned (.bool false) ∧ Below w.heap.size w w') := fun w => by rw [← hp]; exact pure_v y _ w
    clear hp
    gi_wp2_with (gi_at_call 19; refine (CallsIn.inRound l (callsIn_wide.2 (HDEF.out W))).mono ?_; rintro e w8 ⟨rfl, hb8⟩; have hX8 := Ext.below hb8; replace c7 := hX8 _ _ c7; replace d0 := hX8 _ _ d0; replace d1 := hX8 _ _ d1; replace d2 := hX8 _ _ d2; replace d3 := hX8 _ _ d3; replace d4 := hX8 _ _ d4; replace d5 := hX8 _ _ d5; replace d6 := hX8 _ _ d6; replace d7 := hX8 _ _ d7; replace d8 := hX8 _ _ d8; replace d9 := hX8 _ _ d9; replace d10 := hX8 _ _ d10; have HB8 := Lib.hid hb8; clear hX8 hb8)
    refine (CallsIn.inRound l (callsIn_wide.2 (HPUR.out w8))).mono ?_
    rintro e w9 ⟨rfl, hb9⟩
    have HB9 : Hid (Below W.heap.size W w9) := HB8.out.trans (hb9.mono HB8.out.size)
    clear c7 d0 d1 d2 d3 d4 d5 d6 d7 d8 d9 d10 hb9 HB8
    gi_wp2
    refine ⟨⟨HB9.out.block _ hl1, HB9.out.block _ hl2⟩, ⟨HB9.out.mono (by have := B1.out.size; have := HIW.out.pt.below.size; omega), HB9.out.block _ hxg⟩, vs', ?_⟩
    rw [HN.out]
    exact (HIW.out.below HB9.out).pass HOFF.out
   ·obtain ⟨p0, p1⟩ := HPP.out hp
    obtain ⟨dn, hdn⟩ := Int.eq_ofNat_of_zero_le p0
    have hdR : dn < regsN p := by unfold regsN; omega
    have r1 : W.cell? ⟨x.g, dn, none⟩ = some (.bool (liveP p k (x.i + 1) y.d)) := by
     have h := HPW.out.row.cellAt.2.2.2.2.1 dn hdR
     rw [HV2.out dn hdR] at h
     rw [hdn]; exact h
    have HDEF : Hid (∀ w, Calls Tryd.prog 19 #[.agg #[.int .i64 y.op, .int .i64 y.d, .int .i64 y.a, .int .i64 y.b, .int .i64 y.fn, .int .i64 y.obj, .int .i64 y.off, .int .i64 y.size, .int .u32 y.num, .slice sa y.args.length sc, .bool y.log]] w fun e w' => e = .returned (.int .i64 (dn : Int)) ∧ Below w.heap.size w w') := fun w => by
     have := def_v y (.slice sa y.args.length sc) w
     rw [defI_pure hp, hdn] at this
     unfold aggI at this
     exact hdn ▸ this
    have HPUR : Hid (∀ w, Calls Tryd.prog 24 #[.agg #[.int .i64 y.op, .int .i64 y.d, .int .i64 y.a, .int .i64 y.b, .int .i64 y.fn, .int .i64 y.obj, .int .i64 y.off, .int .i64 y.size, .int .u32 y.num, .slice sa y.args.length sc, .bool y.log]] w fun e w' => e = .returned (.bool true) ∧ Below w.heap.size w w') := fun w => by rw [← hp]; exact pure_v y _ w
    have g0 : (0 : Int) ≤ (dn : Int) := by omega
    have g1 : (dn : Int) < (regsN p : Int) := by omega
    cases hl : liveP p k (x.i + 1) y.d
    ·have HN := Lib.hid (HYE.out (by rw [HDD.out, hp, hl]; rfl))
     rw [hl] at r1
     clear hp hl hdn
     gi_wp2_with (gi_at_call 19; refine (CallsIn.inRound l (callsIn_wide.2 (HDEF.out W))).mono ?_; rintro e w8 ⟨rfl, hb8⟩; have hX8 := Ext.below hb8; replace c7 := hX8 _ _ c7; replace d0 := hX8 _ _ d0; replace d1 := hX8 _ _ d1; replace d2 := hX8 _ _ d2; replace d3 := hX8 _ _ d3; replace d4 := hX8 _ _ d4; replace d5 := hX8 _ _ d5; replace d6 := hX8 _ _ d6; replace d7 := hX8 _ _ d7; replace d8 := hX8 _ _ d8; replace d9 := hX8 _ _ d9; replace d10 := hX8 _ _ d10; have HB8 := Lib.hid hb8; clear hX8 hb8)
     refine (CallsIn.inRound l (callsIn_wide.2 (HPUR.out w8))).mono ?_
     rintro e w9 ⟨rfl, hb9⟩
     have HB9 : Hid (Below W.heap.size W w9) := HB8.out.trans (hb9.mono HB8.out.size)
     clear c7 d0 d1 d2 d3 d4 d5 d6 d7 d8 d9 d10 hb9 HB8
     have r1 := (HB9.out.cell (p := ⟨x.g, dn, none⟩) hxg).trans r1
     gi_wp2
     have hW9 : W.heap.size ≤ w9.heap.size := HB9.out.size
     obtain ⟨WD, hWD⟩ : ∃ WD, WD = w9.drew := ⟨_, rfl⟩
     have BD : Hid (Below W.heap.size W WD) := by rw [hWD]; exact HB9.out.drew
     have HID9 := Lib.hid (HIW.out.below BD.out)
     refine wpR_region_game (fun b => b = w1.heap.size + 1 ∨ b = wr.heap.size ∨ b = w1.heap.size) (by kernel_rfl) (by kernel_rfl) ?_
     show wpE _ _ _ _ _ _ _ (World.drew _)
     rw [← hWD]
     clear hWD r1
     have yo := cell_of_heap ((HID9.out.keep _ (by omega) (.inl rfl)).trans G4.out) 0
     have yk := cell_of_heap ((HID9.out.keep _ (by omega) (.inr (.inl (Nat.le_refl _)))).trans G6.out) 0
     simp only [List.getElem?_toArray, List.getElem?_cons_zero] at yo yk
     have hrow := HID9.out.pt.row k hlt
     rw [rowT_at _ _ _ _ hlt] at hrow
     obtain ⟨av, cv, hv⟩ := row_form hrow
     have hcell := HID9.out.pt.cell hlt
     have HV' := Lib.hid hv
     rw [hv] at hcell
     have HPu := Lib.hid (HID9.out.below (below_alloc WD (.cells #[.int .i64 (x.i : Int)] 3)))
     have HRow : Hid ((WD.alloc (.cells #[.int .i64 (x.i : Int)] 3)).ownsRow (w1.heap.size + 2) 3 1 (.slice av (posD (idleI p k) K.ins.length pre.length).length cv) (posD (idleI p k) K.ins.length pre.length).length ((posD (idleI p k) K.ins.length pre.length).map (Value.int .i64))) := by
      have := World.ownsRow.alloc hrow (.cells #[.int .i64 (x.i : Int)] 3)
      rw [hv] at this
      exact this
     have HCX : Hid ((WD.alloc (.cells #[.int .i64 (x.i : Int)] 3)).cell? ⟨WD.heap.size, 0, none⟩ = some (.int .i64 (x.i : Int))) := cell_of_heap (heap_alloc_new WD _) 0
     have HBW : Hid (w1.heap.size + 2 ≤ (WD.alloc (.cells #[.int .i64 (x.i : Int)] 3)).heap.size) := HPu.out.pt.Bw
     have HLN : Hid ((posD (idleI p k) K.ins.length pre.length).length ≤ 1000000000) := by
      show _ ≤ _
      have := posD_le (idleI p k) K.ins.length pre.length
      have := HPW.out.len
      omega
     have hxD : x.g < (WD.alloc (.cells #[.int .i64 (x.i : Int)] 3)).heap.size := by have := BD.out.size; simp; omega
     have hlD : w4.heap.size + 1 < (WD.alloc (.cells #[.int .i64 (x.i : Int)] 3)).heap.size := by omega
     have BDD : Hid (Below W.heap.size W (WD.alloc (.cells #[.int .i64 (x.i : Int)] 3))) := BD.out.trans ((below_alloc WD _).mono BD.out.size)
     clear hrow hv
     generalize posD (idleI p k) K.ins.length pre.length = lr at *
     refine E_mob2s [0, 1, 2, 3, 4, 5, 6] _ _ _ _ (by kernel_rfl) ?_
     simp only [List.map_cons, List.map_nil, List.getElem?_toArray, List.getElem?_cons_succ, List.getElem?_cons_zero, Option.getD_some, List.size_toArray, List.length_cons, List.length_nil, Nat.reduceAdd, Nat.reduceSub]
     repeat (go_big_quiet_step (fail))
     refine wpQuiet_nil ?_
     refine E_loud1 7 _ rfl (by kernel_rfl) ?_
     simp only [List.getElem_toArray, List.getElem_cons_succ, List.getElem_cons_zero]
     go_wp2_with fail
     refine ⟨keep_belU (below_alloc WD _) (fun b hb => by have := BD.out.size; omega), ?_⟩
     refine E_loud1 8 _ rfl (by kernel_rfl) ?_
     simp only [List.getElem_toArray, List.getElem_cons_succ, List.getElem_cons_zero]
     refine appI (n := (x.i : Int)) HRow.out rfl rfl rfl rfl HCX.out HLN.out HBW.out ?_
     intro v3 w3 h3 hg3 ha3
     rw [← HV'.out] at hg3 ha3
     refine ⟨fun b o hb => grown_cell hg3 (by have := BDD.out.size; omega) (fun e => by
      have h1 := (World.ownsRow.lt (HPu.out.pt.row k hlt) _ e).1
      rcases HIW.out.far k hlt _ e with h2 | ⟨h2, -⟩ <;> omega), ?_⟩
     have qn : (vs'.getD k undef).ownBlock ≠ some w1.heap.size := fun e => by have := (World.ownsRow.lt (HPu.out.pt.row k hlt) _ e).1; omega
     have HP3 := Lib.hid (HPu.out.push (x := x) hlt hg3 h3 ha3 D4.out hxh hxD HPW.out.same hrw hgp HOFF.out HGD.out)
     have hgp3 : w1.heap.size < w3.heap.size := by have := hg3.size; have := HBW.out; omega
     have qz : w3.frozen? ⟨w1.heap.size, k, none⟩ = false := (grown_frozen hg3 (by have := HBW.out; omega) qn).trans (HPu.out.pt.tab.frozenAt k)
     have qc : w3.cell? ⟨w1.heap.size, k, none⟩ = some (.slice av lr.length cv) := (grown_cell hg3 (by have := HBW.out; omega) qn).trans ((HPu.out.pt.cell hlt).trans (by rw [HV'.out]))
     have rh : ∀ b, b < (WD.alloc (.cells #[.int .i64 (x.i : Int)] 3)).heap.size → (b = w4.heap.size ∨ b = w4.heap.size + 1 ∨ b = x.g) → (w3.setCell ⟨w1.heap.size, k, none⟩ v3).heap[b]? = (WD.alloc (.cells #[.int .i64 (x.i : Int)] 3)).heap[b]? := fun b hb hb2 =>
      (Below.heap_setCell _ _ _ _ (by simp only; omega)).trans (hg3.block b hb (fun e => by
       rcases hb2 with e2 | e2 | e2
       ·rcases HIW.out.far k hlt b e.symm with h | ⟨h, -⟩ <;> omega
       ·rcases HIW.out.far k hlt b e.symm with h | ⟨h, -⟩ <;> omega
       ·exact HOFF.out k hlt (by rw [← e, e2])))
     have HRH := Lib.hid rh
     have BK : Hid (Below w.heap.size W (w3.setCell ⟨w1.heap.size, k, none⟩ v3)) := (grown_belG (BDD.out.mono (by have := B1.out.size; have := HIW.out.pt.below.size; omega)) (by have := B1.out.size; have := HBW.out; omega) hg3 (fun b e => by have := (World.ownsRow.lt (HPu.out.pt.row k hlt) b e).1; have := B1.out.size; omega)).setCell B1.out.size _
     obtain ⟨a3, c3, rfl⟩ := row_form h3
     clear h3 hg3 ha3 qn rh yo yk hcell HRow HCX HLN HPu
     simp only [Act.put, List.setIfInBounds_toArray, List.set_cons_succ, List.set_cons_zero]
     refine E_mob2s [9] _ _ _ _ (by kernel_rfl) ?_
     simp only [List.map_cons, List.map_nil, List.getElem?_toArray, List.getElem?_cons_succ, List.getElem?_cons_zero, Option.getD_some, List.size_toArray, List.length_cons, List.length_nil, Nat.reduceAdd, Nat.reduceSub]
     repeat (go_big_quiet_step (fail))
     refine wpQuiet_nil ?_
     refine E_last 10 _ rfl (by kernel_rfl) ?_
     simp only [List.getElem_toArray, List.getElem_cons_succ, List.getElem_cons_zero]
     go_wp2_with fail
     refine E_done (by kernel_rfl) ?_ _
     refine ⟨⟨(HRH.out _ (by omega) (.inl rfl)).trans (BDD.out.block _ hl1), (HRH.out _ (by omega) (.inr (.inl rfl))).trans (BDD.out.block _ hl2)⟩, ⟨BK.out, (HRH.out _ hxD (.inr (.inr rfl))).trans (BDD.out.block _ hxg)⟩, vs'.set k (.slice a3 (lr.length + 1) c3), ?_⟩
     rw [HN.out]
     exact HP3.out
    ·have HN := Lib.hid (HNO.out (by rw [HDD.out, hp, hl]; rfl))
     rw [hl] at r1
     clear hp hl hdn
     gi_wp2_with (gi_at_call 19; refine (CallsIn.inRound l (callsIn_wide.2 (HDEF.out W))).mono ?_; rintro e w8 ⟨rfl, hb8⟩; have hX8 := Ext.below hb8; replace c7 := hX8 _ _ c7; replace d0 := hX8 _ _ d0; replace d1 := hX8 _ _ d1; replace d2 := hX8 _ _ d2; replace d3 := hX8 _ _ d3; replace d4 := hX8 _ _ d4; replace d5 := hX8 _ _ d5; replace d6 := hX8 _ _ d6; replace d7 := hX8 _ _ d7; replace d8 := hX8 _ _ d8; replace d9 := hX8 _ _ d9; replace d10 := hX8 _ _ d10; have HB8 := Lib.hid hb8; clear hX8 hb8)
     refine (CallsIn.inRound l (callsIn_wide.2 (HPUR.out w8))).mono ?_
     rintro e w9 ⟨rfl, hb9⟩
     have HB9 : Hid (Below W.heap.size W w9) := HB8.out.trans (hb9.mono HB8.out.size)
     clear c7 d0 d1 d2 d3 d4 d5 d6 d7 d8 d9 d10 hb9 HB8
     have r1 := (HB9.out.cell (p := ⟨x.g, dn, none⟩) hxg).trans r1
     gi_wp2
     refine ⟨⟨HB9.out.block _ hl1, HB9.out.block _ hl2⟩, ⟨HB9.out.mono (by have := B1.out.size; have := HIW.out.pt.below.size; omega), HB9.out.block _ hxg⟩, vs', ?_⟩
     rw [HN.out]
     exact (HIW.out.below HB9.out).pass HOFF.out
  case done =>
   rintro xs W hS ⟨vs', hi⟩ hK
   clear I4 EE2
   have hS : xs.length = K.ins.length := hS
   rw [hS] at hi
   have HIW := Lib.hid hi
   have HKW := Lib.hid hK
   clear hi hK
   have yo := cell_of_heap ((HIW.out.keep _ (by omega) (.inl rfl)).trans G4.out) 0
   have yk := cell_of_heap ((HIW.out.keep _ (by omega) (.inr (.inl (Nat.le_refl _)))).trans G6.out) 0
   simp only [List.getElem?_toArray, List.getElem?_cons_zero] at yo yk
   have hrow := HIW.out.pt.row k hlt
   rw [rowT_at _ _ _ _ hlt] at hrow
   obtain ⟨av, cv, hv⟩ := row_form hrow
   have hcell := HIW.out.pt.cell hlt
   have HV' := Lib.hid hv
   rw [hv] at hcell
   have HREV : Hid (posD (idleI p k) K.ins.length K.ins.length = (idleL p k).reverse) := by
    show _ = _
    rw [HIL.out, ← posD_all, List.reverse_reverse]
   have hLd : (posD (idleI p k) K.ins.length K.ins.length).length ≤ 1000000000 := by have := posD_le (idleI p k) K.ins.length K.ins.length; omega
   have ERV := Lib.hid (reverse_any _ _ W _ hrow hLd)
   rw [hv] at ERV
   have hk0 : (0 : Int) ≤ (k : Int) := by omega
   clear hrow hv
   dsimp only
   generalize posD (idleI p k) K.ins.length K.ins.length = lr at *
   go_wp2_with (go_at_call 74; refine ERV.out.mono ?_; rintro e w8 ⟨rfl, ho8, hg8⟩)
   rw [← HV'.out] at ho8 hg8
   have hk1 : (k : Int) + 1 = ((k + 1 : Nat) : Int) := by omega
   rw [hk1]
   have P8 := HIW.out.pt.turn hlt hg8 ho8
   rw [rowT_set, HREV.out, List.reverse_reverse, rowT_next] at P8
   have K8 : ∀ b, b < W.heap.size → (b = w1.heap.size + 1 ∨ ∃ c, W.heap[b]? = some (.deferred c)) → w8.heap[b]? = W.heap[b]? := fun b hb hb2 => hg8.block b hb (fun e => by
    rcases hb2 with e2 | ⟨c, e2⟩
    ·have := (World.ownsRow.lt (HIW.out.pt.row k hlt) b e.symm).1; omega
    ·obtain ⟨cur, t, f, hc⟩ := own_cells (HIW.out.pt.row k hlt) e.symm
     rw [e2] at hc; cases hc)
   have hsz := HIW.out.size
   have hkp : ∀ D ∈ ds, W.heap[D]? = some (.deferred (some [])) := fun D hD => (HIW.out.keep D (by have := (D4.out D hD).1; omega) (.inr (.inr hD))).trans (HDF.out D hD)
   have L8 : Hid (LI w1 p.blks.length (idleL p) (k + 1) vs' (w4.heap.size :: ds) w8) := by
    refine ⟨P8, (K8 _ (by omega) (.inl rfl)).trans ((HIW.out.keep _ (by omega) (.inl rfl)).trans G4.out), List.nodup_cons.2 ⟨fun h => by have := (D4.out _ h).1; omega, HND.out⟩, fun D hD => ?_, fun D hD => ?_⟩
    ·rcases List.mem_cons.1 hD with rfl | h
     ·exact (K8 _ (Array.getElem?_eq_some_iff.1 HKW.out).1 (.inr ⟨_, HKW.out⟩)).trans HKW.out
     ·exact (K8 _ (by have := (D4.out D h).1; omega) (.inr ⟨_, hkp D h⟩)).trans (hkp D h)
    ·rcases List.mem_cons.1 hD with rfl | h
     ·omega
     ·exact HGE.out D h
   refine ⟨⟨k + 1, vs', w4.heap.size :: ds, _, _, _, _, _, _, _, _, _, _, _, _, _, _, _, _, _, _, _, _, _, _, _, _, _, _, _, _, _, _, _, _, _, _, _, _, _, _, _, _, _, _, _, _, _, _, _, _, _, _, _, _, _, _, _, _, _, _, _, _, _, _, _, _, hlt, L8, rfl⟩, ?_⟩
   simp [intOf]
   omega
 ·obtain rfl : k = p.blks.length := by omega
  have q0 := cell_of_heap HI.out.box 0
  simp only [List.getElem?_toArray, List.getElem?_cons_zero] at q0
  go_wp2_with fail
  refine leavesM_many (v := .slice (some ⟨w1.heap.size, 0, none⟩) p.blks.length p.blks.length) ds wr HI.out.nd HI.out.df fun w' h1 h2 => ⟨by simp [results, Tryd.results57, go_sem], w1.heap.size, w1.heap.size + 2, vs, rfl, ?_⟩
  have hp := HI.out.pt
  rw [rowT_all] at hp
  exact (hp.marks HI.out.df HI.out.ge h1 h2).base B1.out
end Go.Proofs.YtnnhobbabcfogaaDoor
