/-
  The lines of a procedure, the document's way: the walk.
-/
import Derived.Test.YtnnhobbabcfogaaDoorZShapeThreads47
import Derived.Test.YtnnhobbabcfogaaDoorZShapeThreads07
import Derived.Deep.QuietTactic
import Derived.Deep.RegionWith
import Derived.IntWalk
import Derived.WalkSmall
set_option linter.all false
namespace Go.Proofs.YtnnhobbabcfogaaDoor
open Go.ChangeShapes Go.WideShapes Go.ChangeAt Go.RowKit
set_option maxHeartbeats 4000000
set_option linter.unusedVariables false
set_option maxRecDepth 100000

/-- numbers that can be turned round -/
structure NmI (i : In) : Prop where
  op : -9223372036854775807 ≤ i.op
  d : -9223372036854775807 ≤ i.d
  a : -9223372036854775807 ≤ i.a
  b : -9223372036854775807 ≤ i.b
  fn : -9223372036854775807 ≤ i.fn
  obj : -9223372036854775807 ≤ i.obj
  off : -9223372036854775807 ≤ i.off
  size : -9223372036854775807 ≤ i.size
  args : ∀ x ∈ i.args, -9223372036854775807 ≤ x
structure NmB (b : Bk) : Prop where
  ins : ∀ i ∈ b.ins, NmI i
  fin : -9223372036854775807 ≤ b.fin
  a : -9223372036854775807 ≤ b.a
  «to» : -9223372036854775807 ≤ b.to
  els : -9223372036854775807 ≤ b.els
theorem add_str (A : List UInt8) (n : Int) : ({ data := A.toArray } ++ { data := (32 :: Lib.itoa n).toArray } : ByteArray) = ⟨(A ++ 32 :: Lib.itoa n).toArray⟩ := two_str _ _
theorem rtext_c (p : Pr) (v : Value) (w : World) (hP : PrV w v p) (hok : PrOk p) (hs : SzT p) (hnm : ∀ b ∈ p.blks, NmB b) :
    Calls Tryd.prog 17 #[v] w fun e w' => e = .returned (.string ⟨(textF p).toArray⟩) ∧ Below w.heap.size w w' := by
  obtain ⟨nm, vo, vb, rfl, ⟨ao, co, rfl, -⟩, hvb⟩ := hP
  have hvb' := hvb
  obtain ⟨ab, cb, rfl, h1, h2, -⟩ := hvb'
  have HBk := Lib.hid (RdBks.at hvb).2
  clear hvb
  unfold maxLen at h2
  have hbl := hs.blks
  have HTL := Lib.hid (textN_le p hok hs)
  have HOK := Lib.hid (fun k (hk : k < p.blks.length) => show BkOk (p.blks.getD k default) ∧ (p.blks.getD k default).ins.length ≤ 100000 ∧ (∀ i ∈ (p.blks.getD k default).ins, InOk i ∧ i.args.length ≤ 1000) ∧ NmB (p.blks.getD k default) by
    have hm : p.blks.getD k default ∈ p.blks := by rw [List.getD_eq_getElem?_getD, List.getElem?_eq_getElem hk]; exact List.getElem_mem hk
    exact ⟨hok.blks _ hm, hs.ins _ hm, fun i hi => ⟨(hok.blks _ hm).ins i hi, hs.args _ hm i hi⟩, hnm _ hm⟩)
  clear hok hs hnm
  go_enter Tryd.func17, Tryd.ntmps17
  go_wp2_with fail
  obtain ⟨W0, hW0⟩ : ∃ W0, W0 = w.alloc (.cells #[.string nm, .bool p.void, .int .i64 p.params, .int .i64 p.regs, .slice ao p.objs.length co, .slice ab p.blks.length cb] 37) := ⟨_, rfl⟩
  rw [← hW0]
  have hPX := Lib.hid (heap_of_alloc w _ _ hW0)
  have HB0 : Hid (Below w.heap.size w W0) := by rw [hW0]; exact below_alloc w _
  have hz0 : W0.heap.size = w.heap.size + 1 := by rw [hW0]; simp
  clear hW0
  go_loopw [3, 4] (fun s i wr => ∃ k : Nat, i = .int .i64 (k : Int) ∧ s = .string ⟨(textN p k).toArray⟩ ∧ k ≤ p.blks.length ∧ Hid (Below W0.heap.size W0 wr)) (fun _ i _ => p.blks.length - (intOf i).toNat)
  case atStart => exact ⟨0, rfl, rfl, Nat.zero_le _, Below.refl _ _⟩
  case round =>
    obtain ⟨k, rfl, rfl, hk, HW⟩ := hrel
    have hz := HW.out.size
    have hPY := Lib.hid ((HW.out.block _ (by omega)).trans hPX.out)
    obtain ⟨q0, q1, q2, q3, q4, q5, -⟩ := cl6 hPY.out
    by_cases hlt : k < p.blks.length
    · have g1 : decide ((k : Int) < (p.blks.length : Int)) = true := decide_eq_true (by omega)
      have g2 : decide (k < p.blks.length) = true := decide_eq_true hlt
      obtain ⟨b, o, vi, rfl, hvi, c0, c1, c2, c3, c4⟩ := HBk.out k hlt
      have hE : Ext w wr := (Ext.below HB0.out).trans (Ext.below HW.out)
      replace c0 := hE _ _ c0
      replace c1 := hE _ _ c1
      replace c2 := hE _ _ c2
      replace c3 := hE _ _ c3
      replace c4 := hE _ _ c4
      clear hE
      have hst := Lib.hid (textN_succ p k)
      have hl0 := HTL.out k hk
      have hl1 := HTL.out (k + 1) hlt
      have hok := Lib.hid (HOK.out k hlt)
      have hhd := headF_le k (by omega)
      generalize p.blks.getD k default = K at *
      have hvi' := hvi
      obtain ⟨ai, ci, rfl, hi1, hi2, -⟩ := hvi'
      have HIn := Lib.hid (RdIns.at hvi).2
      clear hvi
      unfold maxLen at hi2
      go_upto_region 6 with (fail)
      obtain ⟨W1, hW1⟩ : ∃ W1, W1 = wr.alloc (.cells #[.slice ai K.ins.length ci, .int .i64 K.fin, .int .i64 K.a, .int .i64 K.to, .int .i64 K.els] 40) := ⟨_, rfl⟩
      have hBX := Lib.hid (heap_of_alloc wr _ _ hW1)
      have HT1 : Hid (Below W0.heap.size W0 W1) := by rw [hW1]; exact HW.out.trans ((below_alloc wr _).mono hz)
      rw [← hW1]
      clear hW1 HW hPY
      have hlb : wr.heap.size < W1.heap.size := (Array.getElem?_eq_some_iff.1 hBX.out).1
      have hil := Lib.itoa_length_le (k : Int) (by omega) (by omega)
      clear c0 c1 c2 c3 c4 q0 q1 q2 q3 q4 q5
      have gA : ¬ 9223372036854775807 < (textN p k).length + 1 := by omega
      have gA' : (textN p k).length + 1 ≤ 9223372036854775807 := by omega
      have gB : ¬ 9223372036854775807 < (textN p k).length + 1 + (Lib.itoa (k : Int)).length := by omega
      have gB' : (textN p k).length + 1 + (Lib.itoa (k : Int)).length ≤ 9223372036854775807 := by omega
      have gC : ¬ 9223372036854775807 < (textN p k).length + 1 + (Lib.itoa (k : Int)).length + 2 := by omega
      have gC' : (textN p k).length + 1 + (Lib.itoa (k : Int)).length + 2 ≤ 9223372036854775807 := by omega
      go_wp2_with fail
      refine (num_c (k : Int) (by omega) (by omega) _).mono ?_
      rintro e w2 ⟨rfl, rfl⟩
      obtain ⟨y0, y1, y2, y3, y4, -⟩ := cl5 hBX.out
      go_wp2_with fail
      rw [show ({ data := (textN p k).toArray } ++ { data := #[98] } ++ { data := (Lib.itoa (k : Int)).toArray } ++ { data := #[58, 10] } : ByteArray) = ⟨(textN p k ++ headF k).toArray⟩ from ByteArray.ext (by simp only [ByteArray.data_append]; simp [headF])]
      clear y0 y1 y2 y3 y4 gA gA' gB gB' gC gC'
      generalize wr.heap.size = gb at *
      go_loopw [3, 6] (fun s i wr' => ∃ j : Nat, i = .int .i64 (j : Int) ∧ s = .string ⟨(textN p k ++ headF k ++ (K.ins.take j).flatMap lineF).toArray⟩ ∧ j ≤ K.ins.length ∧ Hid (Below W1.heap.size W1 wr')) (fun _ i _ => K.ins.length - (intOf i).toNat)
      case atStart => exact ⟨0, rfl, by simp, Nat.zero_le _, Below.refl _ _⟩
      case round =>
        obtain ⟨j, rfl, rfl, hj, HW⟩ := hrel
        have hz1 := HW.out.size
        have hBY := Lib.hid ((HW.out.block _ hlb).trans hBX.out)
        obtain ⟨y0, y1, y2, y3, y4, hly⟩ := cl5 hBY.out
        by_cases hlj : j < K.ins.length
        · have g3 : decide ((j : Int) < (K.ins.length : Int)) = true := decide_eq_true (by omega)
          have g4 : decide (j < K.ins.length) = true := decide_eq_true hlj
          obtain ⟨b2, o2, va, rfl, -, hva, x0, x1, x2, x3, x4, x5, x6, x7, x8, x9, x10⟩ := HIn.out j hlj
          have hE : Ext w wr := (Ext.below HB0.out).trans ((Ext.below HT1.out).trans (Ext.below HW.out))
          replace x0 := hE _ _ x0
          replace x1 := hE _ _ x1
          replace x2 := hE _ _ x2
          replace x3 := hE _ _ x3
          replace x4 := hE _ _ x4
          replace x5 := hE _ _ x5
          replace x6 := hE _ _ x6
          replace x7 := hE _ _ x7
          replace x8 := hE _ _ x8
          replace x9 := hE _ _ x9
          replace x10 := hE _ _ x10
          have hln := lines_le (K.ins.take j) fun i hi => (hok.out.2.2.1 i (List.mem_of_mem_take hi))
          rw [List.length_take] at hln
          have hsn : Hid ((K.ins.take (j + 1)).flatMap lineF = (K.ins.take j).flatMap lineF ++ lineF (K.ins.getD j default)) := by
            show _ = _
            rw [List.take_succ_eq_append_getElem hlj, List.flatMap_append]; simp [List.getD, hlj]
          have hmem : K.ins.getD j default ∈ K.ins := by simp [List.getD, hlj]
          have hio := Lib.hid (hok.out.2.2.1 _ hmem)
          have hnmi := Lib.hid (hok.out.2.2.2.ins _ hmem)
          have hkl := hok.out.2.1
          have hlf := lineF_le _ hio.out.1 hio.out.2
          clear hmem
          generalize K.ins.getD j default = I at *
          have hva' := hva.ext hE
          clear hva hE
          have hva2 := hva'
          obtain ⟨aa, ca, rfl, ha1, ha2, -⟩ := hva'
          have HVA := Lib.hid (RdI.at' hva2).2
          clear hva2
          unfold maxLen at ha2
          have hAl : (textN p k ++ headF k ++ (K.ins.take j).flatMap lineF).length ≤ 100000000000000 := by
            simp only [List.length_append]; omega
          go_upto_region 11 with (fail)
          obtain ⟨W2, hW2⟩ : ∃ W2, W2 = wr.alloc (.cells #[.int .i64 I.op, .int .i64 I.d, .int .i64 I.a, .int .i64 I.b, .int .i64 I.fn, .int .i64 I.obj, .int .i64 I.off, .int .i64 I.size, .int .u32 I.num, .slice aa I.args.length ca, .bool I.log] 45) := ⟨_, rfl⟩
          have hIX := Lib.hid (heap_of_alloc wr _ _ hW2)
          have hBw : Hid (Below wr.heap.size wr W2) := by rw [hW2]; exact below_alloc wr _
          rw [← hW2]
          clear hW2 x0 x1 x2 x3 x4 x5 x6 x7 x8 x9 x10 y0 y1 y2 y3 y4
          obtain ⟨z0, z1, z2, z3, z4, z5, z6, z7, z8, z9, z10, hlI⟩ := cl11 hIX.out
          have i0 := Lib.itoa_length_le I.op hio.out.1.op.1 hio.out.1.op.2
          have i1 := Lib.itoa_length_le I.d hio.out.1.d.1 hio.out.1.d.2
          have i2 := Lib.itoa_length_le I.a hio.out.1.a.1 hio.out.1.a.2
          have i3 := Lib.itoa_length_le I.b hio.out.1.b.1 hio.out.1.b.2
          have i4 := Lib.itoa_length_le I.fn hio.out.1.fn.1 hio.out.1.fn.2
          have i5 := Lib.itoa_length_le I.obj hio.out.1.obj.1 hio.out.1.obj.2
          have i6 := Lib.itoa_length_le I.off hio.out.1.off.1 hio.out.1.off.2
          have i7 := Lib.itoa_length_le I.size hio.out.1.size.1 hio.out.1.size.2
          have i8 := Lib.itoa_length_le I.num (I64.num hio.out.1.num).1 (I64.num hio.out.1.num).2
          have hwr1 : IntKind.i64.wrap I.num = I.num := IntWalk.i64_in _ (by have := hio.out.1.num; omega)
          have EN := Lib.hid (fun (n : Int) (h : -9223372036854775807 ≤ n) (h' : n ≤ 9223372036854775807) (u : World) => (numb_c n h h' u).mono fun _ _ ⟨a, b⟩ => (⟨a, b.symm⟩ : _ ∧ _))
          generalize hAA : textN p k ++ headF k ++ (K.ins.take j).flatMap lineF = A at *
          have HAA := Lib.hid hAA
          clear hAA
          have a0 : ¬ 9223372036854775807 < A.length + ((Lib.itoa I.op).length + 1) := by omega
          have a1 : ¬ 9223372036854775807 < A.length + ((Lib.itoa I.op).length + 1) + ((Lib.itoa I.d).length + 1) := by omega
          have a2 : ¬ 9223372036854775807 < A.length + ((Lib.itoa I.op).length + 1) + ((Lib.itoa I.d).length + 1) + ((Lib.itoa I.a).length + 1) := by omega
          have a3 : ¬ 9223372036854775807 < A.length + ((Lib.itoa I.op).length + 1) + ((Lib.itoa I.d).length + 1) + ((Lib.itoa I.a).length + 1) + ((Lib.itoa I.b).length + 1) := by omega
          have a4 : ¬ 9223372036854775807 < A.length + ((Lib.itoa I.op).length + 1) + ((Lib.itoa I.d).length + 1) + ((Lib.itoa I.a).length + 1) + ((Lib.itoa I.b).length + 1) + ((Lib.itoa I.fn).length + 1) := by omega
          have a5 : ¬ 9223372036854775807 < A.length + ((Lib.itoa I.op).length + 1) + ((Lib.itoa I.d).length + 1) + ((Lib.itoa I.a).length + 1) + ((Lib.itoa I.b).length + 1) + ((Lib.itoa I.fn).length + 1) + ((Lib.itoa I.obj).length + 1) := by omega
          have a6 : ¬ 9223372036854775807 < A.length + ((Lib.itoa I.op).length + 1) + ((Lib.itoa I.d).length + 1) + ((Lib.itoa I.a).length + 1) + ((Lib.itoa I.b).length + 1) + ((Lib.itoa I.fn).length + 1) + ((Lib.itoa I.obj).length + 1) + ((Lib.itoa I.off).length + 1) := by omega
          have a7 : ¬ 9223372036854775807 < A.length + ((Lib.itoa I.op).length + 1) + ((Lib.itoa I.d).length + 1) + ((Lib.itoa I.a).length + 1) + ((Lib.itoa I.b).length + 1) + ((Lib.itoa I.fn).length + 1) + ((Lib.itoa I.obj).length + 1) + ((Lib.itoa I.off).length + 1) + ((Lib.itoa I.size).length + 1) := by omega
          have a8 : ¬ 9223372036854775807 < A.length + ((Lib.itoa I.op).length + 1) + ((Lib.itoa I.d).length + 1) + ((Lib.itoa I.a).length + 1) + ((Lib.itoa I.b).length + 1) + ((Lib.itoa I.fn).length + 1) + ((Lib.itoa I.obj).length + 1) + ((Lib.itoa I.off).length + 1) + ((Lib.itoa I.size).length + 1) + ((Lib.itoa I.num).length + 1) := by omega
          go_quiet ((first
            | (go_at_call_of 47 (I.op); exact Calls.quiet_of_same (EN.out I.op hnmi.out.op hio.out.1.op.2 _))
            | (go_at_call_of 47 (I.d); exact Calls.quiet_of_same (EN.out I.d hnmi.out.d hio.out.1.d.2 _))
            | (go_at_call_of 47 (I.a); exact Calls.quiet_of_same (EN.out I.a hnmi.out.a hio.out.1.a.2 _))
            | (go_at_call_of 47 (I.b); exact Calls.quiet_of_same (EN.out I.b hnmi.out.b hio.out.1.b.2 _))
            | (go_at_call_of 47 (I.fn); exact Calls.quiet_of_same (EN.out I.fn hnmi.out.fn hio.out.1.fn.2 _))
            | (go_at_call_of 47 (I.obj); exact Calls.quiet_of_same (EN.out I.obj hnmi.out.obj hio.out.1.obj.2 _))
            | (go_at_call_of 47 (I.off); exact Calls.quiet_of_same (EN.out I.off hnmi.out.off hio.out.1.off.2 _))
            | (go_at_call_of 47 (I.size); exact Calls.quiet_of_same (EN.out I.size hnmi.out.size hio.out.1.size.2 _))
            | (go_at_call_of 47 (I.num); exact Calls.quiet_of_same (EN.out I.num (by have := hio.out.1.num; omega) (I64.num hio.out.1.num).2 _))))
          have e9 : ({ data := A.toArray } ++ { data := (32 :: Lib.itoa I.op).toArray } ++ { data := (32 :: Lib.itoa I.d).toArray } ++ { data := (32 :: Lib.itoa I.a).toArray } ++ { data := (32 :: Lib.itoa I.b).toArray } ++ { data := (32 :: Lib.itoa I.fn).toArray } ++ { data := (32 :: Lib.itoa I.obj).toArray } ++ { data := (32 :: Lib.itoa I.off).toArray } ++ { data := (32 :: Lib.itoa I.size).toArray } ++ { data := (32 :: Lib.itoa I.num).toArray } : ByteArray) = ⟨(A ++ numsF [I.op, I.d, I.a, I.b, I.fn, I.obj, I.off, I.size, I.num]).toArray⟩ := by
            simp only [two_str]; simp [numsF]
          rw [e9]
          clear e9
          have hnl : (numsF [I.op, I.d, I.a, I.b, I.fn, I.obj, I.off, I.size, I.num]).length ≤ 198 := by
            simp only [numsF, List.flatMap_cons, List.flatMap_nil, List.length_append, List.length_cons, List.length_nil]; omega
          clear a0 a1 a2 a3 a4 a5 a6 a7 a8 i0 i1 i2 i3 i4 i5 i6 i7 i8 hwr1 z0 z1 z2 z3 z4 z5 z6 z7 z8 z9 z10 hlI
          have hlF := Lib.hid (show lineF I = numsF [I.op, I.d, I.a, I.b, I.fn, I.obj, I.off, I.size, I.num] ++ numsF I.args ++ (if I.log then [32, 108, 111, 103] else []) ++ [10] from rfl)
          generalize numsF [I.op, I.d, I.a, I.b, I.fn, I.obj, I.off, I.size, I.num] = NN at *
          obtain ⟨W3, hW3⟩ : ∃ W3, W3 = W2.drewN nq := ⟨_, rfl⟩
          have hB3 : Hid (Below wr.heap.size wr W3) := by rw [hW3]; exact below_drewN hBw.out nq
          have hI3 : Hid (W3.heap[wr.heap.size]? = some (.cells #[.int .i64 I.op, .int .i64 I.d, .int .i64 I.a, .int .i64 I.b, .int .i64 I.fn, .int .i64 I.obj, .int .i64 I.off, .int .i64 I.size, .int .u32 I.num, .slice aa I.args.length ca, .bool I.log] 45 (0, 0))) := by rw [hW3]; exact hIX.out
          rw [← hW3]
          clear hW3 hIX hBw
          have hl3 := (Array.getElem?_eq_some_iff.1 hI3.out).1
          go_wp2_with fail
          have HX := Lib.hid (hB3.out.size)
          have hE3 : Hid (Ext wr W3) := Ext.below hB3.out
          generalize wr.heap.size = gi at *
          have hB4 : Hid (Below W1.heap.size W1 W3) := HW.out.trans (hB3.out.mono hz1)
          clear hB3 HW
          go_loopw [3, 8] (fun s i wr' => ∃ q : Nat, i = .int .i64 (q : Int) ∧ s = .string ⟨(A ++ NN ++ numsF (I.args.take q)).toArray⟩ ∧ q ≤ I.args.length ∧ Hid (Below W3.heap.size W3 wr')) (fun _ i _ => I.args.length - (intOf i).toNat)
          case atStart => exact ⟨0, rfl, by simp [numsF], Nat.zero_le _, Below.refl _ _⟩
          case round =>
            obtain ⟨q, rfl, rfl, hq, HQ⟩ := hrel
            have hI5 := Lib.hid ((HQ.out.block _ hl3).trans hI3.out)
            obtain ⟨z0, z1, z2, z3, z4, z5, z6, z7, z8, z9, z10, hlI⟩ := cl11 hI5.out
            have hqn := numsF_len I.args hio.out.1.args q
            have hagl := hio.out.2
            by_cases hlq : q < I.args.length
            · have g5 : decide ((q : Int) < (I.args.length : Int)) = true := decide_eq_true (by omega)
              have g6 : decide (q < I.args.length) = true := decide_eq_true hlq
              obtain ⟨b3, o3, rfl, u0⟩ := HVA.out q hlq
              replace u0 := (hE3.out.trans (Ext.below HQ.out)) _ _ u0
              have hxm : I.args.getD q 0 ∈ I.args := by simp [List.getD, hlq]
              have hx := Lib.hid (hio.out.1.args _ hxm)
              have hx' := Lib.hid (hnmi.out.args _ hxm)
              have hil := Lib.itoa_length_le (I.args.getD q 0) hx.out.1 hx.out.2
              have hsq : Hid (numsF (I.args.take (q + 1)) = numsF (I.args.take q) ++ (32 :: Lib.itoa (I.args.getD q 0))) := by
                show _ = _
                unfold numsF
                rw [List.take_succ_eq_append_getElem hlq, List.flatMap_append]; simp [List.getD, hlq]
              clear hxm
              generalize I.args.getD q 0 = y at *
              have hAQ : (A ++ NN ++ numsF (I.args.take q)).length ≤ 100000000100000 := by simp only [List.length_append]; omega
              generalize hGQ : A ++ NN ++ numsF (I.args.take q) = AQ at *
              have HGQ := Lib.hid hGQ
              clear hGQ
              have c1 : ¬ 9223372036854775807 < AQ.length + ((Lib.itoa y).length + 1) := by omega
              have c2 : AQ.length + ((Lib.itoa y).length + 1) ≤ 9223372036854775807 := by omega
              go_wp2_with fail
              refine (numb_c y hx'.out hx.out.2 _).mono ?_
              rintro e w2 ⟨rfl, rfl⟩
              go_wp2_with fail
              rw [two_str]
              exact ⟨⟨q + 1, rfl, by rw [hsq.out, ← HGQ.out]; simp, by omega, HQ⟩, by simp [intOf]; omega⟩
            · obtain rfl : q = I.args.length := by omega
              have g5 : decide ((I.args.length : Int) < (I.args.length : Int)) = false := decide_eq_false (by omega)
              have g6 : decide (I.args.length < I.args.length) = false := decide_eq_false (by omega)
              have hAQ : (A ++ NN ++ numsF (I.args.take I.args.length)).length ≤ 100000000100000 := by simp only [List.length_append]; omega
              generalize hGQ : A ++ NN ++ numsF (I.args.take I.args.length) = AQ at *
              have HGQ := Lib.hid hGQ
              clear hGQ
              have c1 : ¬ 9223372036854775807 < AQ.length + 1 := by omega
              have c2 : AQ.length + 1 ≤ 9223372036854775807 := by omega
              have c3 : ¬ 9223372036854775807 < AQ.length + 4 := by omega
              have c4 : AQ.length + 4 ≤ 9223372036854775807 := by omega
              have c5 : ¬ 9223372036854775807 < AQ.length + 4 + 1 := by omega
              have c6 : AQ.length + 4 + 1 ≤ 9223372036854775807 := by omega
              have HB6 : Hid (Below W1.heap.size W1 wr) := hB4.out.trans (HQ.out.mono hB4.out.size)
              cases hlog : I.log
              · have hl2 : Hid (textN p k ++ headF k ++ (K.ins.take (j + 1)).flatMap lineF = AQ ++ [10]) := by show _ = _; rw [hsn.out, hlF.out, hlog, ← HGQ.out, ← HAA.out]; simp
                rw [hlog] at z10
                clear hlF hlog
                go_wp2_with fail
                rw [show ({ data := AQ.toArray } ++ { data := #[10] } : ByteArray) = ⟨(textN p k ++ headF k ++ (K.ins.take (j + 1)).flatMap lineF).toArray⟩ from (two_str AQ [10]).trans (by rw [hl2.out])]
                exact ⟨⟨j + 1, rfl, rfl, by omega, HB6⟩, by simp [intOf]; omega⟩
              · have hl2 : Hid (textN p k ++ headF k ++ (K.ins.take (j + 1)).flatMap lineF = AQ ++ [32, 108, 111, 103] ++ [10]) := by show _ = _; rw [hsn.out, hlF.out, hlog, ← HGQ.out, ← HAA.out]; simp
                rw [hlog] at z10
                clear hlF hlog
                go_wp2_with fail
                rw [show ({ data := AQ.toArray } ++ { data := #[32, 108, 111, 103] } ++ { data := #[10] } : ByteArray) = ⟨(textN p k ++ headF k ++ (K.ins.take (j + 1)).flatMap lineF).toArray⟩ from by rw [two_str AQ [32, 108, 111, 103], hl2.out]; exact two_str _ [10]]
                exact ⟨⟨j + 1, rfl, rfl, by omega, HB6⟩, by simp [intOf]; omega⟩
        · obtain rfl : j = K.ins.length := by omega
          have g3 : decide ((K.ins.length : Int) < (K.ins.length : Int)) = false := decide_eq_false (by omega)
          have g4 : decide (K.ins.length < K.ins.length) = false := decide_eq_false (by omega)
          have hln := lines_le K.ins fun i hi => (hok.out.2.2.1 i hi)
          have hkl := hok.out.2.1
          have hAl : (textN p k ++ headF k ++ (K.ins.take K.ins.length).flatMap lineF).length ≤ 100000000000000 := by
            rw [List.take_length]; simp only [List.length_append]; omega
          have hAA : Hid (textN p (k + 1) = textN p k ++ headF k ++ (K.ins.take K.ins.length).flatMap lineF ++ ([32, 101, 110, 100] ++ numsF [K.fin, K.a, K.to, K.els] ++ [10])) := by
            show _ = _; rw [hst.out, List.take_length]; simp [linesF, endF']
          generalize textN p k ++ headF k ++ (K.ins.take K.ins.length).flatMap lineF = A at *
          have i0 := Lib.itoa_length_le K.fin hok.out.1.fin.1 hok.out.1.fin.2
          have i1 := Lib.itoa_length_le K.a hok.out.1.a.1 hok.out.1.a.2
          have i2 := Lib.itoa_length_le K.to hok.out.1.to.1 hok.out.1.to.2
          have i3 := Lib.itoa_length_le K.els hok.out.1.els.1 hok.out.1.els.2
          have EN := Lib.hid (fun (n : Int) (h : -9223372036854775807 ≤ n) (h' : n ≤ 9223372036854775807) (u : World) => (numb_c n h h' u).mono fun _ _ ⟨a, b⟩ => (⟨a, b.symm⟩ : _ ∧ _))
          have a0 : ¬ 9223372036854775807 < A.length + 4 := by omega
          have a1 : ¬ 9223372036854775807 < A.length + 4 + ((Lib.itoa K.fin).length + 1) := by omega
          have a2 : ¬ 9223372036854775807 < A.length + 4 + ((Lib.itoa K.fin).length + 1) + ((Lib.itoa K.a).length + 1) := by omega
          have a3 : ¬ 9223372036854775807 < A.length + 4 + ((Lib.itoa K.fin).length + 1) + ((Lib.itoa K.a).length + 1) + ((Lib.itoa K.to).length + 1) := by omega
          have a4 : ¬ 9223372036854775807 < A.length + 4 + ((Lib.itoa K.fin).length + 1) + ((Lib.itoa K.a).length + 1) + ((Lib.itoa K.to).length + 1) + ((Lib.itoa K.els).length + 1) := by omega
          have a5 : ¬ 9223372036854775807 < A.length + 4 + ((Lib.itoa K.fin).length + 1) + ((Lib.itoa K.a).length + 1) + ((Lib.itoa K.to).length + 1) + ((Lib.itoa K.els).length + 1) + 1 := by omega
          go_upto_region 19 with (fail)
          go_quiet ((first
            | (go_at_call_of 47 (K.fin); exact Calls.quiet_of_same (EN.out K.fin hok.out.2.2.2.fin hok.out.1.fin.2 _))
            | (go_at_call_of 47 (K.a); exact Calls.quiet_of_same (EN.out K.a hok.out.2.2.2.a hok.out.1.a.2 _))
            | (go_at_call_of 47 (K.to); exact Calls.quiet_of_same (EN.out K.to hok.out.2.2.2.to hok.out.1.to.2 _))
            | (go_at_call_of 47 (K.els); exact Calls.quiet_of_same (EN.out K.els hok.out.2.2.2.els hok.out.1.els.2 _))))
          have e9 : ({ data := A.toArray } ++ { data := #[32, 101, 110, 100] } ++ { data := (32 :: Lib.itoa K.fin).toArray } ++ { data := (32 :: Lib.itoa K.a).toArray } ++ { data := (32 :: Lib.itoa K.to).toArray } ++ { data := (32 :: Lib.itoa K.els).toArray } ++ { data := #[10] } : ByteArray) = ⟨(textN p (k + 1)).toArray⟩ := by
            rw [hAA.out]
            exact ByteArray.ext (by simp only [ByteArray.data_append]; simp [numsF])
          rw [e9]
          clear e9
          obtain ⟨W3, hW3⟩ : ∃ W3, W3 = wr.drewN nq := ⟨_, rfl⟩
          have hB3 : Hid (Below W0.heap.size W0 W3) := by rw [hW3]; exact below_drewN (HT1.out.trans (HW.out.mono HT1.out.size)) nq
          rw [← hW3]
          clear hW3
          go_wp2_with fail
          exact ⟨⟨k + 1, rfl, rfl, by omega, hB3⟩, by simp [intOf]; omega⟩
    · obtain rfl : k = p.blks.length := by omega
      have g1 : decide ((p.blks.length : Int) < (p.blks.length : Int)) = false := decide_eq_false (by omega)
      have g2 : decide (p.blks.length < p.blks.length) = false := decide_eq_false (by omega)
      go_wp2_with fail
      go_ret
      exact ⟨rfl, HB0.out.trans (HW.out.mono HB0.out.size)⟩
end Go.Proofs.YtnnhobbabcfogaaDoor
