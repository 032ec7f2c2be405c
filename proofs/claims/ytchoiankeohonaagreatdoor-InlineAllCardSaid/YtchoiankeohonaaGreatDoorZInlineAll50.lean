/-
 The lines of a procedure: the walk.; Is a module right, and not too large: the walk of the statements' Right.
-/
import Derived.Test.YtchoiankeohonaaGreatDoorZInlineAll49
import Derived.Test.YtchoiankeohonaaGreatDoorZInlineAll04
import Derived.Test.YtchoiankeohonaaGreatDoorZInlineAll10
import Derived.Test.YtchoiankeohonaaGreatDoorZInlineAll07
import Derived.Test.YtchoiankeohonaaGreatDoorZInlineAll01
import Derived.Deep.Cut
import Derived.Test.YtchoiankeohonaaGreatDoorZInlineAll22
import Derived.Test.YtchoiankeohonaaGreatDoorZInlineAll44

set_option linter.all false
namespace Go.Proofs.YtchoiankeohonaaGreatDoor
open Go.ChangeShapes Go.WideShapes Go.ChangeAt Go.RowKit
set_option maxHeartbeats 4000000
set_option linter.unusedVariables false
set_option maxRecDepth 100000

/-- sizes at which the lines may be written -/
structure SzT (p : Pr) : Prop where
 blks : p.blks.length ≤ 10000
 ins : ∀ b ∈ p.blks, b.ins.length ≤ 100000
 args : ∀ b ∈ p.blks, ∀ i ∈ b.ins, i.args.length ≤ 1000
theorem lineF_le (i : In) (h : InOk i) (ha : i.args.length ≤ 1000) : (lineF i).length ≤ 23000 := by
 have h1 := numsF_le [i.op, i.d, i.a, i.b, i.fn, i.obj, i.off, i.size, i.num] (fun x hx => by
  simp only [List.mem_cons, List.not_mem_nil, or_false] at hx
  rcases hx with rfl | rfl | rfl | rfl | rfl | rfl | rfl | rfl | rfl
  ·exact h.op
  ·exact h.d
  ·exact h.a
  ·exact h.b
  ·exact h.fn
  ·exact h.obj
  ·exact h.off
  ·exact h.size
  ·have := h.num; exact ⟨by omega, by omega⟩)
 have h2 := numsF_le i.args h.args
 have h3 : ((if i.log then [32, 108, 111, 103] else []) : List UInt8).length ≤ 4 := by split <;> simp
 unfold lineF
 rw [List.length_append, List.length_append, List.length_append]
 simp only [List.length_cons, List.length_nil] at h1 ⊢
 omega
theorem lines_le (l : List In) (h : ∀ i ∈ l, InOk i ∧ i.args.length ≤ 1000) : (l.flatMap lineF).length ≤ 23000 * l.length := by
 induction l with
 | nil => exact Nat.le_refl _
 | cons x l ih =>
  have h1 := ih fun y hy => h y (List.mem_cons_of_mem _ hy)
  have hx := h x (List.mem_cons_self ..)
  have h2 := lineF_le x hx.1 hx.2
  rw [List.flatMap_cons, List.length_append, List.length_cons]
  omega
theorem endF'_le (b : Bk) (h : BkOk b) : (endF' b).length ≤ 100 := by
 have h1 := numsF_le [b.fin, b.a, b.to, b.els] (fun x hx => by
  simp only [List.mem_cons, List.not_mem_nil, or_false] at hx
  rcases hx with rfl | rfl | rfl | rfl
  ·exact h.fin
  ·exact h.a
  ·exact h.to
  ·exact h.els)
 unfold endF'
 rw [List.length_append, List.length_append]
 simp only [List.length_cons, List.length_nil] at h1 ⊢
 omega
theorem headF_le (n : Nat) (h : n ≤ 10000) : (headF n).length ≤ 30 := by
 have h2 := Lib.itoa_length_le (n : Int) (by omega) (by omega)
 unfold headF
 rw [List.length_append]
 simp only [List.length_cons, List.length_nil]
 omega
theorem textN_le (p : Pr) (hok : PrOk p) (hs : SzT p) : ∀ k, k ≤ p.blks.length → (textN p k).length ≤ 2300000200 * k
 | 0, _ => by simp [textN]
 | k + 1, h => by
  have ih := textN_le p hok hs k (by omega)
  rw [textN_succ]
  have hm : p.blks.getD k default ∈ p.blks := by rw [List.getD_eq_getElem?_getD, List.getElem?_eq_getElem h]; exact List.getElem_mem h
  have h1 := headF_le k (by have := hs.blks; omega)
  have h2 := lines_le (p.blks.getD k default).ins fun i hi => ⟨(hok.blks _ hm).ins i hi, hs.args _ hm i hi⟩
  have h3 := endF'_le _ (hok.blks _ hm)
  have h4 := hs.ins _ hm
  have h5 : (linesF (p.blks.getD k default)).length ≤ 23000 * (p.blks.getD k default).ins.length := h2
  rw [List.length_append, List.length_append, List.length_append]
  omega
theorem bc_app (A B : List UInt8) : Lib.byteCells A ++ Lib.strCells ⟨B.toArray⟩ = Lib.byteCells (A ++ B) := by simp [Lib.byteCells, Lib.strCells]
/-- a row of numbers that was made at once -/
theorem rdNs_of_rdI {w : World} {a : Option Addr} {n c : Nat} {L : List Int} (h : RdI w (.slice a n c) L) : n = L.length ∧ RdNs w a L := by
 obtain ⟨a', c', e, h1, h2, hc⟩ := h
 simp only [Value.slice.injEq] at e
 obtain ⟨rfl, rfl, rfl⟩ := e
 refine ⟨rfl, fun hne => ?_⟩
 have h0 : 0 < L.length := by rcases L with _ | _; exact absurd rfl hne; simp
 obtain ⟨b, o, rfl, h1⟩ := hc 0 h0
 refine ⟨b, o, rfl, fun j hj => ?_⟩
 obtain ⟨b', o', e, h2⟩ := hc j hj
 simp only [Option.some.injEq, Addr.mk.injEq] at e
 obtain ⟨rfl, rfl, -⟩ := e
 simpa using h2
/-- the builder's text, where a walk stands -/
structure TI (w0 : World) (A : List UInt8) (w : World) : Prop where
 I : Lib.IsBuilder 70 5 (w0.heap.size + 1) (w0.heap.size + 1) (Lib.byteCells A) w
 B : Below w0.heap.size w0 w
 z : w0.heap.size + 2 ≤ w.heap.size
theorem TI.grow {w0 w w' : World} {A : List UInt8} (h : TI w0 A w) (hb : Below w.heap.size w w') : TI w0 A w' :=
 ⟨isb_below h.I hb, h.B.trans (hb.mono (by have := h.z; omega)), Nat.le_trans h.z hb.size⟩
theorem TI.write_c {w0 w : World} {A : List UInt8} (h : TI w0 A w) (S : List UInt8) (hl : A.length + S.length ≤ 140737488355328) :
  Calls Tryz.prog 23 #[.pointer (some ⟨w0.heap.size + 1, 0, none⟩), .string ⟨S.toArray⟩] w fun e w' => e = .returned (.tuple #[.int .i64 S.length, .nilIface]) ∧ TI w0 (A ++ S) w' ∧ Stays (w0.heap.size + 1) w w' ∧ w.heap.size ≤ w'.heap.size := by
 refine (Proofs.YtchoiankeohonaaGreatDoor.write_c (w0.heap.size + 1) (w0.heap.size + 1) _ _ w h.I (by simpa [Lib.byteCells, ByteArray.size] using hl) (by have := h.z; omega)).mono ?_
 rintro e w3 ⟨rfl, HA, B3, hs⟩
 rw [bc_app] at HA
 exact ⟨rfl, ⟨.inr HA, h.B.trans (B3.mono (by omega)), Nat.le_trans h.z B3.size⟩, hs, B3.size⟩
theorem head_str (k : Nat) : ({ data := #[98] } ++ { data := (Lib.itoa (k : Int)).toArray } ++ { data := #[58, 10] } : ByteArray) = ⟨(headF k).toArray⟩ := ByteArray.ext (by rw [ByteArray.data_append, ByteArray.data_append]; simp [headF])
theorem two_str (A B : List UInt8) : ({ data := A.toArray } ++ { data := B.toArray } : ByteArray) = ⟨(A ++ B).toArray⟩ := ByteArray.ext (by rw [ByteArray.data_append]; simp)
theorem end_str (A : List UInt8) : ({ data := #[32, 101, 110, 100] } ++ { data := A.toArray } ++ { data := #[10] } : ByteArray) = ⟨([32, 101, 110, 100] ++ A ++ [10]).toArray⟩ := ByteArray.ext (by rw [ByteArray.data_append, ByteArray.data_append]; simp)
theorem keep_bl {S : Nat → Prop} {w w' : World} (hb : Below w.heap.size w w') (h : ∀ b, S b → b < w.heap.size) : Keep S w w' := fun b o hs => hb.cell (p := ⟨b, o, none⟩) (h b hs)
theorem I64.num {n : Int} (h : 0 ≤ n ∧ n < 4294967296) : I64 n := ⟨by omega, by omega⟩
theorem text_c (p : Pr) (v : Value) (w : World) (hpw : Pow w) (hg : 2 < w.heap.size) (hP : PrV w v p) (hok : PrOk p) (hs : SzT p) :
  Calls Tryz.prog 10 #[v] w fun e w' => e = .returned (.string ⟨(textF p).toArray⟩) ∧ Below w.heap.size w w' := by
 obtain ⟨nm, vo, vb, rfl, ⟨ao, co, rfl, -⟩, hvb⟩ := hP
 have hvb' := hvb
 obtain ⟨ab, cb, rfl, h1, h2, -⟩ := hvb'
 have HBk := Lib.hid (RdBks.at hvb).2
 clear hvb
 unfold maxLen at h2
 have hbl := hs.blks
 have HTL := Lib.hid (textN_le p hok hs)
 have HPT := Lib.hid (fun w' (h : Below w.heap.size w w') => show Pow w' from Go.Joins.var_stays pow_named hpw h (Nat.le_refl _))
 have HOK := Lib.hid (fun k (hk : k < p.blks.length) => show BkOk (p.blks.getD k default) ∧ (p.blks.getD k default).ins.length ≤ 100000 ∧ ∀ i ∈ (p.blks.getD k default).ins, InOk i ∧ i.args.length ≤ 1000 by
  have hm : p.blks.getD k default ∈ p.blks := by rw [List.getD_eq_getElem?_getD, List.getElem?_eq_getElem hk]; exact List.getElem_mem hk
  exact ⟨hok.blks _ hm, hs.ins _ hm, fun i hi => ⟨(hok.blks _ hm).ins i hi, hs.args _ hm i hi⟩⟩)
 clear hok hs hpw
 go_enter Tryz.func10, Tryz.ntmps10
 go_wp2_with fail
 obtain ⟨W0, hW0⟩ : ∃ W0, W0 = (w.alloc (.cells #[.string nm, .bool p.void, .int .i64 p.params, .int .i64 p.regs, .slice ao p.objs.length co, .slice ab p.blks.length cb] 35)).alloc (.cells #[.pointer none, .slice none 0 0] 70) := ⟨_, rfl⟩
 rw [← hW0]
 have T0 : Hid (TI w (textN p 0) W0) := by
  rw [hW0]
  refine ⟨.inl ⟨Nat.le_refl _, _, ?_, World.ownsRow_nil _ _ _ _, by simp [Value.ownBlock]⟩, ((Below.refl _ w).alloc (Nat.le_refl _) _).alloc (by simp) _, by simp⟩
  have := heap_alloc_new (w.alloc (.cells #[.string nm, .bool p.void, .int .i64 p.params, .int .i64 p.regs, .slice ao p.objs.length co, .slice ab p.blks.length cb] 35)) (.cells #[.pointer none, .slice none 0 0] 70)
  simpa using this
 clear hW0
 go_loopw [11] (fun i wr => ∃ k : Nat, i = .int .i64 (k : Int) ∧ k ≤ p.blks.length ∧ Hid (TI w (textN p k) wr)) (fun i _ => p.blks.length - (intOf i).toNat)
 case atStart => exact ⟨0, rfl, Nat.zero_le _, T0⟩
 case round =>
  clear T0
  obtain ⟨k, rfl, hk, HT⟩ := hrel
  have hz := HT.out.z
  by_cases hlt : k < p.blks.length
  ·have g1 : decide ((k : Int) < (p.blks.length : Int)) = true := decide_eq_true (by omega)
   have g2 : decide (k < p.blks.length) = true := decide_eq_true hlt
   obtain ⟨b, o, vi, rfl, hvi, c0, c1, c2, c3, c4⟩ := HBk.out k hlt
   have hE := Ext.below HT.out.B
   replace c0 := hE _ _ c0
   replace c1 := hE _ _ c1
   replace c2 := hE _ _ c2
   replace c3 := hE _ _ c3
   replace c4 := hE _ _ c4
   clear hE
   have hst := Lib.hid (textN_succ p k)
   have hl0 := HTL.out k hk
   have hl1 := HTL.out (k + 1) hlt
   have hok := Lib.hid (HOK.out k hlt)
   have hhd := headF_le k (by omega)
   generalize p.blks.getD k default = K at *
   have hvi' := hvi
   obtain ⟨ai, ci, rfl, hi1, hi2, -⟩ := hvi'
   have HIn := Lib.hid (RdIns.at hvi).2
   clear hvi
   unfold maxLen at hi2
   go_upto_region 5 with (fail)
   obtain ⟨W1, hW1⟩ : ∃ W1, W1 = wr.alloc (.cells #[.slice ai K.ins.length ci, .int .i64 K.fin, .int .i64 K.a, .int .i64 K.to, .int .i64 K.els] 51) := ⟨_, rfl⟩
   have hBX := Lib.hid (heap_of_alloc wr _ _ hW1)
   have HT1 : Hid (TI w (textN p k) W1) := by rw [hW1]; exact HT.out.grow (below_alloc wr _)
   rw [← hW1]
   clear hW1 HT
   have hlb : wr.heap.size < W1.heap.size := (Array.getElem?_eq_some_iff.1 hBX.out).1
   have hil := Lib.itoa_length_le (k : Int) (by omega) (by omega)
   clear c0 c1 c2 c3 c4
   go_wp2_with (go_at_call 24; refine (Tryz.strconv_Itoa (k : Int) (by omega) (by omega) W1 (HPT.out _ HT1.out.B)).mono ?_; rintro e w2 ⟨rfl, hw2⟩)
   rw [head_str]
   have HT2 : Hid (TI w (textN p k) w2) := by
    obtain ⟨q, os, rfl⟩ := hw2
    exact HT1.out.grow (Go.Lib.below_grow _ W1 (Nat.le_refl _) q os)
   have hB2 : Hid (w2.heap[wr.heap.size]? = some (.cells #[.slice ai K.ins.length ci, .int .i64 K.fin, .int .i64 K.a, .int .i64 K.to, .int .i64 K.els] 51 (0, 0))) := by
    obtain ⟨q, os, rfl⟩ := hw2
    exact ((Go.Lib.below_grow _ W1 (Nat.le_refl _) q os).block _ hlb).trans hBX.out
   clear HT1 hBX hw2 hlb hil
   refine (HT2.out.write_c (headF k) (by omega)).mono ?_
   rintro e w3 ⟨rfl, HT3, hs3, hz3⟩
   have HT3 := Lib.hid HT3
   have hB3 := Lib.hid ((hs3 _ _ _ _ (by omega) (by decide) hB2.out).trans hB2.out)
   clear HT2 hB2 hs3 hz3
   obtain ⟨y0, y1, y2, y3, y4, hlb⟩ := cl5 hB3.out
   go_wp2_with fail
   clear y0 y1 y2 y3 y4 hlb
   go_loopw [24] (fun i wr' => ∃ j : Nat, i = .int .i64 (j : Int) ∧ j ≤ K.ins.length ∧ Hid (TI w (textN p k ++ headF k ++ (K.ins.take j).flatMap lineF) wr') ∧ Hid (wr'.heap[wr.heap.size]? = some (.cells #[.slice ai K.ins.length ci, .int .i64 K.fin, .int .i64 K.a, .int .i64 K.to, .int .i64 K.els] 51 (0, 0)))) (fun i _ => K.ins.length - (intOf i).toNat)
   case atStart => exact ⟨0, rfl, Nat.zero_le _, by simpa using HT3, hB3⟩
   case round =>
    clear HT3 hB3
    obtain ⟨j, rfl, hj, HT, hBX⟩ := hrel
    have hz := HT.out.z
    have hlr := (Array.getElem?_eq_some_iff.1 hBX.out).1
    by_cases hlj : j < K.ins.length
    ·have g1 : decide ((j : Int) < (K.ins.length : Int)) = true := decide_eq_true (by omega)
     have g2 : decide (j < K.ins.length) = true := decide_eq_true hlj
     obtain ⟨b2, o2, va, rfl, -, hva, x0, x1, x2, x3, x4, x5, x6, x7, x8, x9, x10⟩ := HIn.out j hlj
     have hE := Ext.below HT.out.B
     replace x0 := hE _ _ x0
     replace x1 := hE _ _ x1
     replace x2 := hE _ _ x2
     replace x3 := hE _ _ x3
     replace x4 := hE _ _ x4
     replace x5 := hE _ _ x5
     replace x6 := hE _ _ x6
     replace x7 := hE _ _ x7
     replace x8 := hE _ _ x8
     replace x9 := hE _ _ x9
     replace x10 := hE _ _ x10
     clear hE
     have hln := lines_le (K.ins.take j) fun i hi => hok.out.2.2 i (List.mem_of_mem_take hi)
     rw [List.length_take] at hln
     have hsn : Hid ((K.ins.take (j + 1)).flatMap lineF = (K.ins.take j).flatMap lineF ++ lineF (K.ins.getD j default)) := by
      show _ = _
      rw [List.take_succ_eq_append_getElem hlj, List.flatMap_append]; simp [List.getD, hlj]
     have hio := Lib.hid (hok.out.2.2 (K.ins.getD j default) (by simp [List.getD, hlj]))
     have hkl := hok.out.2.1
     have hlf := lineF_le _ hio.out.1 hio.out.2
     generalize K.ins.getD j default = I at *
     have hva' := hva
     obtain ⟨aa, ca, rfl, ha1, ha2, -⟩ := hva'
     have HVA := Lib.hid hva
     clear hva
     unfold maxLen at ha2
     go_upto_region 9 with (fail)
     obtain ⟨W2, hW2⟩ : ∃ W2, W2 = wr.alloc (.cells #[.int .i64 I.op, .int .i64 I.d, .int .i64 I.a, .int .i64 I.b, .int .i64 I.fn, .int .i64 I.obj, .int .i64 I.off, .int .i64 I.size, .int .u32 I.num, .slice aa I.args.length ca, .bool I.log] 48) := ⟨_, rfl⟩
     have hIX := Lib.hid (heap_of_alloc wr _ _ hW2)
     have HT1 : Hid (TI w (textN p k ++ headF k ++ (K.ins.take j).flatMap lineF) W2) := by rw [hW2]; exact HT.out.grow (below_alloc wr _)
     have hBw : Below wr.heap.size wr W2 := by rw [hW2]; exact below_alloc wr _
     have hBX1 := Lib.hid ((hBw.block _ hlr).trans hBX.out)
     have hlb : wr.heap.size < W2.heap.size := (Array.getElem?_eq_some_iff.1 hIX.out).1
     have hlx : _ < W2.heap.size := Nat.lt_of_lt_of_le hlr hBw.size
     rw [← hW2]
     clear hW2 hBw x0 x1 x2 x3 x4 x5 x6 x7 x8 x9 x10
     obtain ⟨W3, hW3⟩ : ∃ W3, W3 = W2.drew := ⟨_, rfl⟩
     have HT2 : Hid (TI w (textN p k ++ headF k ++ (K.ins.take j).flatMap lineF) W3) := by rw [hW3]; exact HT1.out.grow (Below.refl _ W2).drew
     have hI3 : Hid (W3.heap[wr.heap.size]? = some (.cells #[.int .i64 I.op, .int .i64 I.d, .int .i64 I.a, .int .i64 I.b, .int .i64 I.fn, .int .i64 I.obj, .int .i64 I.off, .int .i64 I.size, .int .u32 I.num, .slice aa I.args.length ca, .bool I.log] 48 (0, 0))) := by rw [hW3]; exact hIX.out
     have hh : W3.heap = W2.heap := by rw [hW3]; rfl
     have hB3 := hBX1
     rw [← hh] at hB3
     clear hh
     have hz3 : wr.heap.size < W3.heap.size := by rw [hW3]; exact hlb
     refine wp_region_game (fun b => b = wr.heap.size) (by kernel_rfl) ?_
     show wpE _ _ _ _ _ _ _ W2.drew
     rw [← hW3]
     clear hW3 hIX hBX1 HT1 HT hBX hlr
     obtain ⟨y0, y1, y2, y3, y4, y5, y6, y7, y8, y9, y10, -⟩ := cl11 hI3.out
     refine E_mob2s [0, 1, 2, 3, 4, 5, 6, 7, 8, 9, 10, 11, 12, 13, 14, 15, 16, 17, 18, 21, 22] _ _ _ _ (by kernel_rfl) ?_
     simp only [List.map_cons, List.map_nil, List.getElem?_toArray, List.getElem?_cons_succ, List.getElem?_cons_zero, Option.getD_some, List.size_toArray, List.length_cons, List.length_nil, Nat.reduceAdd, Nat.reduceSub]
     repeat (go_big_quiet_step (fail))
     refine wpQuiet_nil ?_
     refine E_loud1 19 _ rfl (by kernel_rfl) ?_
     simp only [List.getElem_toArray, List.getElem_cons_succ, List.getElem_cons_zero]
     go_wp2_with fail
     rw [show wrap64 I.num = I.num by have := hio.out.1.num; unfold wrap64; omega]
     obtain ⟨W4, hW4⟩ : ∃ W4, W4 = W3.alloc (.cells #[.int .i64 I.op, .int .i64 I.d, .int .i64 I.a, .int .i64 I.b, .int .i64 I.fn, .int .i64 I.obj, .int .i64 I.off, .int .i64 I.size, .int .i64 I.num] 3) := ⟨_, rfl⟩
     have hR4 := Lib.hid (rdNs_of_rdI (RdI.lit (w := W4) (g := W3.heap.size) [I.op, I.d, I.a, I.b, I.fn, I.obj, I.off, I.size, I.num] (by simp) (heap_of_alloc W3 _ _ hW4))).2
     have hb4 : Below W3.heap.size W3 W4 := by rw [hW4]; exact below_alloc W3 _
     rw [← hW4]
     refine ⟨keep_bl hb4 (fun b hb => by rw [hb]; exact hz3), ?_⟩
     have HT4 := Lib.hid (HT2.out.grow hb4)
     have hI4 := Lib.hid ((hb4.block _ hz3).trans hI3.out)
     have hB4 := Lib.hid ((hb4.block _ (Array.getElem?_eq_some_iff.1 hB3.out).1).trans hB3.out)
     have hz4 : wr.heap.size < W4.heap.size := (Array.getElem?_eq_some_iff.1 hI4.out).1
     clear hW4 hb4 HT2 hI3 hB3 hz3
     refine E_loud1 20 _ rfl (by kernel_rfl) ?_
     simp only [List.getElem_toArray, List.getElem_cons_succ, List.getElem_cons_zero]
     go_wp2_with fail
     refine (nums_c [I.op, I.d, I.a, I.b, I.fn, I.obj, I.off, I.size, I.num] _ _ W4 (HPT.out _ HT4.out.B) (by omega) (fun x hx => by
      simp only [List.mem_cons, List.not_mem_nil, or_false] at hx
      rcases hx with rfl | rfl | rfl | rfl | rfl | rfl | rfl | rfl | rfl
      ·exact hio.out.1.op
      ·exact hio.out.1.d
      ·exact hio.out.1.a
      ·exact hio.out.1.b
      ·exact hio.out.1.fn
      ·exact hio.out.1.obj
      ·exact hio.out.1.off
      ·exact hio.out.1.size
      ·exact I64.num hio.out.1.num) (by simp) hR4.out).mono ?_
     rintro e w5 ⟨rfl, hb5⟩
     go_wp2_with fail
     refine ⟨keep_bl hb5 (fun b hb => by rw [hb]; exact hz4), ?_⟩
     have HT5 := Lib.hid (HT4.out.grow hb5)
     have hI5 := Lib.hid ((hb5.block _ hz4).trans hI4.out)
     have hB5 := Lib.hid ((hb5.block _ (Array.getElem?_eq_some_iff.1 hB4.out).1).trans hB4.out)
     have hz5 : wr.heap.size < w5.heap.size := (Array.getElem?_eq_some_iff.1 hI5.out).1
     clear hb5 HT4 hI4 hB4 hz4 hR4
     refine E_loud1 23 _ rfl (by kernel_rfl) ?_
     simp only [List.getElem_toArray, List.getElem_cons_succ, List.getElem_cons_zero]
     go_wp2_with fail
     refine (nums_c I.args _ _ w5 (HPT.out _ HT5.out.B) (by omega) hio.out.1.args (by have := hio.out.2; omega) (rdNs_of_rdI (HVA.out.ext (Ext.below HT5.out.B))).2).mono ?_
     rintro e w6 ⟨rfl, hb6⟩
     go_wp2_with fail
     refine ⟨keep_bl hb6 (fun b hb => by rw [hb]; exact hz5), ?_⟩
     have HT6 := Lib.hid (HT5.out.grow hb6)
     have hI6 := Lib.hid ((hb6.block _ hz5).trans hI5.out)
     have hB6 := Lib.hid ((hb6.block _ (Array.getElem?_eq_some_iff.1 hB5.out).1).trans hB5.out)
     clear hb6 HT5 hI5 hB5 hz5
     have hnn : (numsF [I.op, I.d, I.a, I.b, I.fn, I.obj, I.off, I.size, I.num]).length + (numsF I.args).length ≤ 23000 := by
      have e : (lineF I).length = (numsF [I.op, I.d, I.a, I.b, I.fn, I.obj, I.off, I.size, I.num] ++ numsF I.args).length + ((if I.log then [32, 108, 111, 103] else []) ++ [10] : List UInt8).length := by
       unfold lineF; simp only [List.length_append]; omega
      simp only [List.length_append] at e ⊢
      omega
     have gi : ¬ 9223372036854775807 < (numsF [I.op, I.d, I.a, I.b, I.fn, I.obj, I.off, I.size, I.num]).length + (numsF I.args).length := by omega
     have gj : (numsF [I.op, I.d, I.a, I.b, I.fn, I.obj, I.off, I.size, I.num]).length + (numsF I.args).length ≤ 9223372036854775807 := by omega
     refine E_loud1 24 _ rfl (by kernel_rfl) ?_
     simp only [List.getElem_toArray, List.getElem_cons_succ, List.getElem_cons_zero]
     go_wp2_with fail
     refine ⟨Keep.refl _ _, ?_⟩
     refine E_last 25 _ rfl (by kernel_rfl) ?_
     simp only [List.getElem_toArray, List.getElem_cons_succ, List.getElem_cons_zero]
     go_wp2_with fail
     rw [two_str]
     refine (HT6.out.write_c (numsF [I.op, I.d, I.a, I.b, I.fn, I.obj, I.off, I.size, I.num] ++ numsF I.args) (by simp only [List.length_append]; omega)).mono ?_
     rintro e w7 ⟨rfl, HT7, hs7, hz7⟩
     have HT7 := Lib.hid HT7
     have hI7 := Lib.hid ((hs7 _ _ _ _ (by omega) (by decide) hI6.out).trans hI6.out)
     have hB7 := Lib.hid ((hs7 _ _ _ _ (by omega) (by decide) hB6.out).trans hB6.out)
     clear hs7 hz7 HT6 hI6 hB6
     go_wp2_with fail
     refine E_done (by kernel_rfl) ?_ _
     clear y0 y1 y2 y3 y4 y5 y6 y7 y8 y9 y10
     obtain ⟨y0, y1, y2, y3, y4, y5, y6, y7, y8, y9, y10, hlI⟩ := cl11 hI7.out
     have hlF := Lib.hid (show lineF I = numsF [I.op, I.d, I.a, I.b, I.fn, I.obj, I.off, I.size, I.num] ++ numsF I.args ++ (if I.log then [32, 108, 111, 103] else []) ++ [10] from rfl)
     cases hlog : I.log
     ·have hl2 : Hid (lineF I = numsF [I.op, I.d, I.a, I.b, I.fn, I.obj, I.off, I.size, I.num] ++ numsF I.args ++ [10]) := by show _ = _; rw [hlF.out, hlog]; simp
      rw [hlog] at y10
      clear hlF
      have Hlog := Lib.hid hlog
      clear hlog
      go_wp2_with fail
      refine (HT7.out.write_c [10] (by simp only [List.length_append, List.length_cons, List.length_nil]; omega)).mono ?_
      rintro e w8 ⟨rfl, HT8, hs8, hz8⟩
      have HT8 := Lib.hid HT8
      have hB8 := Lib.hid ((hs8 _ _ _ _ (by omega) (by decide) hB7.out).trans hB7.out)
      clear hs8 hz8 HT7 hB7 hI7
      go_wp2_with fail
      exact ⟨⟨j + 1, rfl, by omega, by rw [hsn.out, hl2.out]; simpa using HT8, hB8⟩, by simp [intOf]; omega⟩
     ·have hl2 : Hid (lineF I = numsF [I.op, I.d, I.a, I.b, I.fn, I.obj, I.off, I.size, I.num] ++ numsF I.args ++ [32, 108, 111, 103] ++ [10]) := by show _ = _; rw [hlF.out, hlog]; simp
      rw [hlog] at y10
      clear hlF
      have Hlog := Lib.hid hlog
      clear hlog
      go_wp2_with fail
      refine (HT7.out.write_c [32, 108, 111, 103] (by simp only [List.length_append, List.length_cons, List.length_nil]; omega)).mono ?_
      rintro e w8 ⟨rfl, HT8, hs8, hz8⟩
      have HT8 := Lib.hid HT8
      have hB8 := Lib.hid ((hs8 _ _ _ _ (by omega) (by decide) hB7.out).trans hB7.out)
      clear hs8 hz8 HT7 hB7 hI7
      go_wp2_with fail
      refine (HT8.out.write_c [10] (by simp only [List.length_append, List.length_cons, List.length_nil]; omega)).mono ?_
      rintro e w9 ⟨rfl, HT9, hs9, hz9⟩
      have HT9 := Lib.hid HT9
      have hB9 := Lib.hid ((hs9 _ _ _ _ (by omega) (by decide) hB8.out).trans hB8.out)
      clear hs9 hz9 HT8 hB8
      go_wp2_with fail
      exact ⟨⟨j + 1, rfl, by omega, by rw [hsn.out, hl2.out]; simpa using HT9, hB9⟩, by simp [intOf]; omega⟩
    ·obtain rfl : j = K.ins.length := by omega
     have g1 : decide ((K.ins.length : Int) < (K.ins.length : Int)) = false := decide_eq_false (by omega)
     have g2 : decide (K.ins.length < K.ins.length) = false := decide_eq_false (by omega)
     rw [List.take_length] at HT
     have hln := lines_le K.ins fun i hi => hok.out.2.2 i hi
     have hkl := hok.out.2.1
     obtain ⟨y0, y1, y2, y3, y4, -⟩ := cl5 hBX.out
     go_wp2_with fail
     obtain ⟨W4, hW4⟩ : ∃ W4, W4 = wr.alloc (.cells #[.int .i64 K.fin, .int .i64 K.a, .int .i64 K.to, .int .i64 K.els] 3) := ⟨_, rfl⟩
     have hR4 := Lib.hid (rdNs_of_rdI (RdI.lit (w := W4) (g := wr.heap.size) [K.fin, K.a, K.to, K.els] (by simp) (heap_of_alloc wr _ _ hW4))).2
     have hb4 : Below wr.heap.size wr W4 := by rw [hW4]; exact below_alloc wr _
     rw [← hW4]
     have HT4 := Lib.hid (HT.out.grow hb4)
     have hz4 := HT4.out.z
     clear hW4 hb4 HT y0 y1 y2 y3 y4
     have hef := endF'_le K hok.out.1
     have hnl : (numsF [K.fin, K.a, K.to, K.els]).length ≤ 100 := by
      have e : (endF' K).length = (numsF [K.fin, K.a, K.to, K.els]).length + 5 := by unfold endF'; simp only [List.length_append, List.length_cons, List.length_nil]; omega
      omega
     refine (nums_c [K.fin, K.a, K.to, K.els] _ _ W4 (HPT.out _ HT4.out.B) (by omega) (fun x hx => by
      simp only [List.mem_cons, List.not_mem_nil, or_false] at hx
      rcases hx with rfl | rfl | rfl | rfl
      ·exact hok.out.1.fin
      ·exact hok.out.1.a
      ·exact hok.out.1.to
      ·exact hok.out.1.els) (by simp) hR4.out).mono ?_
     rintro e w5 ⟨rfl, hb5⟩
     have HT5 := Lib.hid (HT4.out.grow hb5)
     clear hb5 HT4 hR4
     have gi : ¬ 9223372036854775807 < 4 + (numsF [K.fin, K.a, K.to, K.els]).length := by omega
     have gj : 4 + (numsF [K.fin, K.a, K.to, K.els]).length ≤ 9223372036854775807 := by omega
     have gk : ¬ 9223372036854775807 < 4 + (numsF [K.fin, K.a, K.to, K.els]).length + 1 := by omega
     have gl : 4 + (numsF [K.fin, K.a, K.to, K.els]).length + 1 ≤ 9223372036854775807 := by omega
     go_wp2_with fail
     rw [end_str]
     refine (HT5.out.write_c ([32, 101, 110, 100] ++ numsF [K.fin, K.a, K.to, K.els] ++ [10]) (by
      have e : ([32, 101, 110, 100] ++ numsF [K.fin, K.a, K.to, K.els] ++ [10] : List UInt8).length ≤ 105 := by simp only [List.length_append, List.length_cons, List.length_nil]; omega
      simp only [List.length_append] at e ⊢
      omega)).mono ?_
     rintro e w6 ⟨rfl, HT6, hs6, hz6⟩
     have HT6 := Lib.hid HT6
     clear hs6 hz6 HT5 gi gj gk gl
     go_wp2_with fail
     exact ⟨⟨k + 1, rfl, by omega, by rw [hst.out]; have := HT6; unfold linesF endF'; simpa using this⟩, by simp [intOf]; omega⟩
  ·obtain rfl : k = p.blks.length := by omega
   have g1 : decide ((p.blks.length : Int) < (p.blks.length : Int)) = false := decide_eq_false (by omega)
   have g2 : decide (p.blks.length < p.blks.length) = false := decide_eq_false (by omega)
   go_wp2_with fail
   refine (Tryz.Builder_String_any (w.heap.size + 1) (w.heap.size + 1) _ wr HT.out.I (by omega)).mono ?_
   rintro e w3 ⟨rfl, B3⟩
   have HB := Lib.hid (HT.out.B.trans (B3.mono (by omega)))
   clear B3
   go_wp2_with fail
   go_ret
   exact ⟨rfl, HB.out⟩
end Go.Proofs.YtchoiankeohonaaGreatDoor

set_option linter.all false
namespace Go.Proofs.YtchoiankeohonaaGreatDoor
open Go.ChangeShapes Go.WideShapes Go.ChangeAt Go.RowKit
set_option maxHeartbeats 4000000
set_option linter.unusedVariables false
set_option maxRecDepth 100000

def rightB (m : Md) (n : Int) : Bool := fewM m && (decide (0 ≤ n) && (decide (n < (m.procs.length : Int)) && (decide ((m.procs.getD n.toNat default).regs ≤ 40) && okM m)))
theorem rightM_c (m : Md) (v : Value) (n : Int) (w : World) (hv : MdV w v m) :
  Calls Tryz.prog 4 #[v, .int .i64 n] w fun e w' => e = .returned (.bool (rightB m n)) ∧ Below w.heap.size w w' := by
 have HF : Hid (∀ w', Ext w w' → Calls Tryz.prog 13 #[v] w' fun e w'' => e = .returned (.bool (fewM m)) ∧ Below w'.heap.size w' w'') := fun w' he => few_c m v w' (hv.ext he)
 have HV := Lib.hid hv
 obtain ⟨vg, vd, vp, rfl, hvg, hvd, hvp⟩ := hv
 have hvp' := hvp
 obtain ⟨ap, cp, rfl, hp1, hp2, -⟩ := hvp'
 unfold maxLen at hp2
 have HPS := Lib.hid (RdPrs.at6 hvp).2
 clear hvg hvd hvp
 obtain ⟨W0, hW0⟩ : ∃ W0, W0 = w.alloc (.cells #[vg, vd, .slice ap m.procs.length cp, .int .i64 m.main] 26) := ⟨_, rfl⟩
 have B0 : Hid (Below w.heap.size w W0) := by rw [hW0]; exact below_alloc w _
 have H0 := Lib.hid (heap_of_alloc w _ _ hW0)
 have HW0 := Lib.hid hW0
 clear hW0
 go_enter Tryz.func4, Tryz.ntmps4
 go_wp2_with fail
 rw [← HW0.out]
 refine (HF.out W0 (Ext.below B0.out)).mono ?_
 rintro e w1 ⟨rfl, hb1⟩
 have H0 := Lib.hid ((hb1.block w.heap.size (Array.getElem?_eq_some_iff.1 H0.out).1).trans H0.out)
 have BB := Lib.hid (B0.out.trans (hb1.mono B0.out.size))
 clear hb1 HF HW0 B0
 obtain ⟨y0, y1, y2, y3, l0⟩ := cl4 H0.out
 cases hfw : fewM m
 ·have hR : Hid (rightB m n = false) := by show _ = _; unfold rightB; rw [hfw]; rfl
  clear hfw
  go_wp2_with fail
  go_ret
  exact ⟨ret_b hR.out.symm, BB.out⟩
 ·by_cases h0 : 0 ≤ n
  ·obtain ⟨k, rfl⟩ := Int.eq_ofNat_of_zero_le h0
   have g0 : decide (0 ≤ (k : Int)) = true := decide_eq_true (by omega)
   by_cases h1 : k < m.procs.length
   ·have g1 : decide ((k : Int) < (m.procs.length : Int)) = true := decide_eq_true (by omega)
    have g2 : decide (k < m.procs.length) = true := decide_eq_true h1
    obtain ⟨bp, op, tnm, tvo, tvb, hap, hto, htb, t0, t1, t2, t3, t4, t5⟩ := HPS.out k h1
    subst hap
    have hE : Ext w w1 := Ext.below BB.out
    replace t3 := hE _ _ t3
    have lbp : bp < w1.heap.size := World.block_lt_of_cell? w1 _ t3
    clear hto htb t0 t1 t2 t4 t5 hE
    have HRG : Hid (rightB m (k : Int) = (decide ((m.procs.getD k default).regs ≤ 40) && okM m)) := by
     show _ = _
     unfold rightB
     rw [hfw, g0, g1, Int.toNat_natCast]; rfl
    have HSZ := Lib.hid (fewM_sz hfw)
    clear hfw HPS
    generalize (m.procs.getD k default).regs = rg at *
    by_cases h2 : rg ≤ 40
    ·have g3 : decide (rg ≤ 40) = true := decide_eq_true h2
     go_wp2_with fail
     refine (check_c m _ w1 (HV.out.ext (Ext.below BB.out)) HSZ.out).mono ?_
     rintro e w2 ⟨rfl, hb2⟩
     have BB := Lib.hid (BB.out.trans (hb2.mono BB.out.size))
     clear hb2
     cases hok : okM m
     ·have hR : Hid (rightB m (k : Int) = false) := by show _ = _; rw [HRG.out, g3, hok]; rfl
      have hk : okE m = 3 := by unfold okE; rw [hok]; rfl
      rw [hk]
      clear hok hk
      go_wp2_with fail
      go_ret
      exact ⟨ret_b hR.out.symm, BB.out⟩
     ·have hR : Hid (rightB m (k : Int) = true) := by show _ = _; rw [HRG.out, g3, hok]; rfl
      have hk : okE m = 0 := by unfold okE; rw [hok]; rfl
      rw [hk]
      clear hok hk
      go_wp2_with fail
      go_ret
      exact ⟨ret_b hR.out.symm, BB.out⟩
    ·have g3 : decide (rg ≤ 40) = false := decide_eq_false h2
     have hR : Hid (rightB m (k : Int) = false) := by show _ = _; rw [HRG.out, g3]; rfl
     go_wp2_with fail
     go_ret
     exact ⟨ret_b hR.out.symm, BB.out⟩
   ·have g1 : decide ((k : Int) < (m.procs.length : Int)) = false := decide_eq_false (by omega)
    have g2 : decide (k < m.procs.length) = false := decide_eq_false h1
    have hR : Hid (rightB m (k : Int) = false) := by show _ = _; unfold rightB; rw [hfw, g0, g1]; rfl
    clear hfw
    go_wp2_with fail
    go_ret
    exact ⟨ret_b hR.out.symm, BB.out⟩
  ·have g0 : decide (0 ≤ n) = false := decide_eq_false h0
   have hR : Hid (rightB m n = false) := by show _ = _; unfold rightB; rw [hfw, g0]; rfl
   clear hfw
   go_wp2_with fail
   go_ret
   exact ⟨ret_b hR.out.symm, BB.out⟩
theorem rightB_is {m : Md} {n : Int} (h : rightB m n = true) : fewM m = true ∧ ∃ k : Nat, n = (k : Int) ∧ k < m.procs.length ∧ (m.procs.getD k default).regs ≤ 40 ∧ okM m = true := by
 unfold rightB at h
 simp only [Bool.and_eq_true, decide_eq_true_eq] at h
 obtain ⟨h0, h1, h2, h3, h4⟩ := h
 exact ⟨h0, n.toNat, by omega, by omega, h3, h4⟩
end Go.Proofs.YtchoiankeohonaaGreatDoor
