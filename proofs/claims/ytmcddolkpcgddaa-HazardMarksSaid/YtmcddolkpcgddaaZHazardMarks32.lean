/-
 hazard: what an instruction reads of memory, one by one (the iterator of reads).
-/
import Derived.Test.YtmcddolkpcgddaaZHazardMarks30
import Derived.Test.YtmcddolkpcgddaaZHazardMarks31
set_option linter.all false
namespace Go.Proofs.Ytmcddolkpcgddaa
open Go.ChangeShapes Go.WideShapes Go.ChangeAt Go.RowKit
set_option maxHeartbeats 4000000
set_option maxRecDepth 100000
set_option linter.unusedVariables false
attribute [local go_sem] Oper.semAt_some

theorem cl1 {w : World} {b : Nat} {t : TypeId} {z0 : Value} (h : w.heap[b]? = some (.cells #[z0] t)) : w.cell? ⟨b, 0, none⟩ = some z0 ∧ b < w.heap.size := ⟨cell_of_heap h 0, (Array.getElem?_eq_some_iff.1 h).1⟩
theorem retI22 {k : IntKind} {a b : Int} (h : a = b) : Ending.returned (.int k a) = .returned (.int k b) := by rw [h]
theorem hreg_c (bf : Nat) (nm : ByteArray) (p : Pr) (vo vb : Value) (bv : Nat) (vs vf vg : Value) (al : Option Addr) (NL cl r : Nat) (W : World) (hbx : W.heap[bf]? = some (fdO nm p vo vb bv vs (.slice al NL cl) vf vg)) (hN : NL ≤ 10000000) (hr : r ≤ 1000000) :
  Calls Try.prog 75 #[.pointer (some ⟨bf, 0, none⟩), .int .i64 (r : Int)] W fun e w' => e = .returned (.int .i64 ((NL + r : Nat) : Int)) ∧ w' = W := by
 obtain ⟨-, -, -, -, -, -, -, -, y8, -, -, ly⟩ := cl11 hbx
 clear hbx
 go_enter Try.func75, Try.ntmps75
 go_wp2_with fail
 go_ret
 exact ⟨retI22 (by omega), rfl⟩
def inB22 (i : In) (va : Value) : Obj := .cells #[.int .i64 i.op, .int .i64 i.d, .int .i64 i.a, .int .i64 i.b, .int .i64 i.fn, .int .i64 i.obj, .int .i64 i.off, .int .i64 i.size, .int .u32 i.num, va, .bool i.log] 58
theorem hreads_c (bf : Nat) (i : In) (aa : Option Addr) (an ac : Nat) (load : Int) (w : World) :
  Calls Try.prog 73 #[.pointer (some ⟨bf, 0, none⟩), aggI i (.slice aa an ac), .int .i64 load] w fun e w' => e = .returned (.func (.func 97) #[] #[.pointer (some ⟨w.heap.size + 1, 0, none⟩), .pointer (some ⟨w.heap.size + 2, 0, none⟩), .pointer (some ⟨w.heap.size, 0, none⟩)]) ∧
   w' = ((w.alloc (.cells #[.pointer (some ⟨bf, 0, none⟩)] 79)).alloc (inB22 i (.slice aa an ac))).alloc (.cells #[.int .i64 load] 3) := by
 unfold aggI inB22
 go_enter Try.func73, Try.ntmps73
 go_wp2_with fail
 go_ret
 exact ⟨rfl, rfl⟩
/-- what the iterator reads: the finder, its three boxes, all that is elder than w0 -/
structure RqH (w0 : World) (bf : Nat) (nm : ByteArray) (p : Pr) (vo vb : Value) (bv : Nat) (vs vl vf vg : Value) (bi bl bp : Nat) (i : In) (va : Value) (load : Int) (W : World) : Prop where
 box : W.heap[bf]? = some (fdO nm p vo vb bv vs vl vf vg)
 ins : W.heap[bi]? = some (inB22 i va)
 ld : W.heap[bl]? = some (.cells #[.int .i64 load] 3)
 pt : W.heap[bp]? = some (.cells #[.pointer (some ⟨bf, 0, none⟩)] 79)
 be : Below w0.heap.size w0 W
/-- what a round keeps -/
structure KpH (gh hl : Nat) (A B : World) : Prop where
 os : B.os = A.os
 tape : B.tape = A.tape
 output : B.output = A.output
 size : A.heap.size ≤ B.heap.size
 keep : ∀ b, b < A.heap.size → b ≠ gh → b ≠ hl → B.heap[b]? = A.heap[b]?
theorem KpH.refl (gh hl : Nat) (A : World) : KpH gh hl A A := ⟨rfl, rfl, rfl, Nat.le_refl _, fun _ _ _ _ => rfl⟩
theorem KpH.trans {gh hl : Nat} {A B C : World} (h : KpH gh hl A B) (k : KpH gh hl B C) : KpH gh hl A C :=
 ⟨k.os.trans h.os, k.tape.trans h.tape, k.output.trans h.output, Nat.le_trans h.size k.size, fun b hb h1 h2 => (k.keep b (Nat.lt_of_lt_of_le hb h.size) h1 h2).trans (h.keep b hb h1 h2)⟩
theorem KpH.but {gh hl : Nat} {A B : World} (h : But gh A B) : KpH gh hl A B := ⟨h.os, h.tape, h.output, h.size, fun b hb h1 _ => h.block b hb h1⟩
theorem KpH.put (gh hl : Nat) (A : World) (o : Obj) : KpH gh hl A (A.putObj hl o) := ⟨rfl, rfl, rfl, by simp, fun b hb _ h2 => World.putObj_heap_other h2⟩
theorem KpH.below {gh hl : Nat} {A B : World} (h : Below A.heap.size A B) : KpH gh hl A B := ⟨h.os, h.tape, h.output, h.size, fun b hb _ _ => h.block b hb⟩
theorem KpH.own {gh hl : Nat} {A B : World} (h : KpH gh hl A B) {b s n : Nat} {e : TypeId} {v : Value} {xs : List Value} (ho : A.ownsRow b e s v n xs) (h1 : v.ownBlock ≠ some gh) (h2 : v.ownBlock ≠ some hl) : B.ownsRow b e s v n xs := by
 obtain ⟨h3, h4 | ⟨g, cap, cur, rfl, h5, h6, h7⟩⟩ := ho
 ·exact ⟨h3, .inl h4⟩
 ·refine ⟨h3, .inr ⟨g, cap, cur, rfl, h5, (h.keep g (Array.getElem?_eq_some_iff.1 h6).1 (fun e => h1 (by rw [e]; rfl)) (fun e => h2 (by rw [e]; rfl))).trans h6, h7⟩⟩
theorem KpH.beB {gh hl : Nat} {A B w0 : World} (h : KpH gh hl A B) (hb : Below w0.heap.size w0 A) (h1 : w0.heap.size ≤ gh) (h2 : w0.heap.size ≤ hl) : Below w0.heap.size w0 B :=
 ⟨h.os.trans hb.os, h.tape.trans hb.tape, h.output.trans hb.output, Nat.le_trans hb.size h.size, fun b hlt => (h.keep b (Nat.lt_of_lt_of_le hlt hb.size) (by omega) (by omega)).trans (hb.block b hlt)⟩
section
variable {w0 A B : World} {bf bv bi bl bp gh hl : Nat} {nm : ByteArray} {p : Pr} {vo vb vs vl vf vg va : Value} {i : In} {load : Int}
theorem RqH.kp (h : RqH w0 bf nm p vo vb bv vs vl vf vg bi bl bp i va load A) (hk : KpH gh hl A B) (h1 : w0.heap.size ≤ gh) (h2 : w0.heap.size ≤ hl) (hg : ∀ b, b = bf ∨ b = bi ∨ b = bl ∨ b = bp → b ≠ gh ∧ b ≠ hl) : RqH w0 bf nm p vo vb bv vs vl vf vg bi bl bp i va load B :=
 ⟨(hk.keep _ (Array.getElem?_eq_some_iff.1 h.box).1 (hg _ (.inl rfl)).1 (hg _ (.inl rfl)).2).trans h.box,
  (hk.keep _ (Array.getElem?_eq_some_iff.1 h.ins).1 (hg _ (.inr (.inl rfl))).1 (hg _ (.inr (.inl rfl))).2).trans h.ins,
  (hk.keep _ (Array.getElem?_eq_some_iff.1 h.ld).1 (hg _ (.inr (.inr (.inl rfl)))).1 (hg _ (.inr (.inr (.inl rfl)))).2).trans h.ld,
  (hk.keep _ (Array.getElem?_eq_some_iff.1 h.pt).1 (hg _ (.inr (.inr (.inr rfl)))).1 (hg _ (.inr (.inr (.inr rfl)))).2).trans h.pt, hk.beB h.be h1 h2⟩
end
theorem RqH.below {w0 A B : World} {bf bv bi bl bp : Nat} {nm : ByteArray} {p : Pr} {vo vb vs vl vf vg va : Value} {i : In} {load : Int} (h : RqH w0 bf nm p vo vb bv vs vl vf vg bi bl bp i va load A) (hb : Below A.heap.size A B) : RqH w0 bf nm p vo vb bv vs vl vf vg bi bl bp i va load B :=
 ⟨(hb.block _ (Array.getElem?_eq_some_iff.1 h.box).1).trans h.box, (hb.block _ (Array.getElem?_eq_some_iff.1 h.ins).1).trans h.ins, (hb.block _ (Array.getElem?_eq_some_iff.1 h.ld).1).trans h.ld, (hb.block _ (Array.getElem?_eq_some_iff.1 h.pt).1).trans h.pt, h.be.trans (hb.mono h.be.size)⟩
theorem reads1_c (w0 : World) (bf : Nat) (nm : ByteArray) (p : Pr) (vo vb : Value) (bv : Nat) (vs vf vg : Value) (al : Option Addr) (NL cl bi bl bp gh hl : Nat) (i : In) (va : Value) (load : Nat) (s : List Bool) (n l : Nat) (W1 : World)
  (hR : RqH w0 bf nm p vo vb bv vs (.slice al NL cl) vf vg bi bl bp i va (load : Int) W1) (hvs : RdB w0 vs s) (hva : RdI w0 va i.args) (hal : i.args.length ≤ 1000) (hNL : NL ≤ 10000000) (hsl : s.length ≤ 1000000)
  (h1 : w0.heap.size ≤ gh) (h2 : w0.heap.size ≤ hl) (hg : ∀ b, b = bf ∨ b = bi ∨ b = bl ∨ b = bp → b ≠ gh ∧ b ≠ hl) (hgl : gh < W1.heap.size) (hhl : hl < W1.heap.size)
  (J Jx : List Nat → World → Prop) (hJ : ∀ s A B, J s A → Below A.heap.size A B → J s B)
  (hY : ∀ pre x W, J pre W → x ∈ readsH s NL load i → YieldAt Fence.wide (n - 1) Try.prog l #[.int .i64 (x : Int)] W fun e W' => (e = .returned (.bool true) ∧ J (pre ++ [x]) W' ∧ KpH gh hl W W') ∨ (e = .returned (.bool false) ∧ Jx (pre ++ [x]) W'))
  (h0 : J [] W1) :
  CallsIn Fence.wide n Try.prog 97 #[.func (.yield l) #[] #[], .pointer (some ⟨bi, 0, none⟩), .pointer (some ⟨bl, 0, none⟩), .pointer (some ⟨bp, 0, none⟩)] W1 fun e W' =>
   (∃ v, e = .returned v) ∧ ((∃ xs, xs = readsH s NL load i ∧ J xs W') ∨ ∃ pre, Jx pre W') := by
 have HY := Lib.hid hY
 have HJ := Lib.hid hJ
 have HR := Lib.hid hR
 have HG := Lib.hid hg
 have HVS := Lib.hid hvs
 have HVA := Lib.hid hva
 have HJ0 := Lib.hid h0
 have HRD : Hid (readsH s NL load i = (if i.op = 5 then [load] else []) ++ ((usesI i).filter (spillB s)).map fun r => NL + r.toNat) := rfl
 clear hY hJ hR hg hvs hva h0
 refine callsIn_of_wp Try.func97 rfl trivial ?_ rfl
 simp only [Try.ntmps97, List.size_toArray, List.length_cons, List.length_nil, Nat.reduceAdd, Nat.reduceSub, Array.replicate_succ, Array.replicate_zero, List.push_toArray, List.append_toArray, List.nil_append, List.cons_append]
 obtain ⟨va, vc, rfl⟩ : ∃ a c, va = .slice a i.args.length c := by
  obtain ⟨a, c, e, -⟩ := HVA.out
  exact ⟨a, c, e⟩
 obtain ⟨y0, -, -, -, -, -, -, -, -, -, -, ly⟩ := cl11 HR.out.ins
 obtain ⟨z0, lz⟩ := cl1 HR.out.ld
 cases h5 : (i.op == 5)
 ·have HRX := HR
  have HJX := HJ0
  have HSX : Hid (W1.heap.size ≤ W1.heap.size) := Nat.le_refl _
  have HEND : Hid (∀ z : List Nat, [] ++ z = (if i.op = 5 then [load] else []) ++ z) := fun z => by rw [if_neg (by simpa using h5)]
  clear HR HJ0 y0 z0 ly lz
  obtain ⟨d0, d1, d2, d3, d4, d5, d6, d7, d8, d9, d10, ld⟩ := cl11 HRX.out.ins
  have HUS := Lib.hid (uses_c i (.agg #[.int .i64 i.op, .int .i64 i.d, .int .i64 i.a, .int .i64 i.b, .int .i64 i.fn, .int .i64 i.obj, .int .i64 i.off, .int .i64 i.size, .int .u32 i.num, .slice va i.args.length vc, .bool i.log]) W1 ⟨_, rfl, HVA.out.ext (Ext.below HRX.out.be)⟩ hal)
  gi_wp2
  refine (callsIn_wide.2 HUS.out).mono ?_
  clear HUS
  rintro e w2 ⟨vL, rfl, hoL, hb2⟩
  have HR2 := Lib.hid (HRX.out.below hb2)
  have HJ2 := Lib.hid (HJ.out _ _ _ HJX.out hb2)
  have HO2 : Hid (OwnI w2 W1.heap.size vL (usesI i)) := by
   obtain ⟨e1, e2⟩ := hoL
   rcases e2 with ⟨a, b⟩ | ⟨g', cap, cur, a, b, c⟩
   ·exact ⟨e1, .inl ⟨a, b⟩⟩
   ·exact ⟨e1, .inr ⟨g', cap, cur, a, Nat.le_trans HSX.out b, c⟩⟩
  obtain ⟨aL, cL, rfl⟩ := row_form hoL
  clear hoL hb2 HRX HJX d0 d1 d2 d3 d4 d5 d6 d7 d8 d9 d10 ld
  generalize usesI i = U at *
  have HUL : Hid (U.length ≤ cL ∧ cL ≤ 2 ^ 63 - 1) := by
   obtain ⟨a', c', e, h1, h2, -⟩ := OwnI.rd HO2.out
   simp only [Value.slice.injEq] at e
   obtain ⟨-, -, rfl⟩ := e
   exact ⟨h1, h2⟩
  obtain ⟨hu1, hu2⟩ := HUL.out
  gi_wp2
  gi_loopw [19] (fun j wr => ∃ k : Nat, k ≤ U.length ∧ j = .int .i64 (k : Int) ∧ Hid (J ([] ++ ((U.take k).filter (spillB s)).map fun r => NL + r.toNat) wr) ∧ Hid (RqH w0 bf nm p vo vb bv vs (.slice al NL cl) vf vg bi bl bp i (.slice va i.args.length vc) (load : Int) wr) ∧ Hid (OwnI wr W1.heap.size (.slice aL U.length cL) U)) (fun j _ => U.length - (intOf j).toNat)
  case atStart => exact ⟨0, Nat.zero_le _, rfl, by show J _ _; simpa using HJ2.out, HR2, HO2⟩
  case round =>
   clear HR2 HJ2 HO2
   obtain ⟨k, hk, rfl, HJr, HRr, HO⟩ := hrel
   by_cases hlt : k < U.length
   ·have q1 : decide (k < U.length) = true := decide_eq_true hlt
    have q2 : decide ((k : Int) < (U.length : Int)) = true := decide_eq_true (by omega)
    obtain ⟨a', c', e, -, -, hcl⟩ := OwnI.rd HO.out
    simp only [Value.slice.injEq] at e
    obtain ⟨rfl, -, rfl⟩ := e
    obtain ⟨bL, oL, haL, hcell⟩ := hcl k hlt
    subst haL
    simp only [Nat.mul_one, Nat.add_zero] at hcell
    have HTK : Hid ((U.take (k + 1)).filter (spillB s) = (U.take k).filter (spillB s) ++ (if spillB s (U.getD k 0) = true then [U.getD k 0] else [])) := by
     show _ = _
     have e : U.getD k 0 = U[k] := by simp [List.getD, hlt]
     rw [e, List.take_succ_eq_append_getElem hlt, List.filter_append]
     congr 1
     by_cases h : spillB s U[k] = true
     ·simp [h]
     ·simp [h]
    have HME : Hid (U.getD k 0 ∈ U) := getD_in22 hlt
    generalize U.getD k 0 = r at *
    obtain ⟨p0, -⟩ := cl1 HRr.out.pt
    obtain ⟨-, -, -, -, -, -, -, y7, -, -, -, ly⟩ := cl11 HRr.out.box
    have HSP := Lib.hid (spills_c vs s r wr (HVS.out.ext (Ext.below HRr.out.be)))
    have lL := World.block_lt_of_cell? wr _ hcell
    have lp := World.block_lt_of_cell? wr _ p0
    clear hcl
    cases hsp : spillB s r
    ·have HNX : Hid ((U.take (k + 1)).filter (spillB s) = (U.take k).filter (spillB s)) := by
      show _ = _
      rw [HTK.out, hsp]; simp
     rw [hsp] at HSP
     gi_wp2
     refine (callsIn_wide.2 HSP.out).mono ?_
     rintro e w5 ⟨rfl, rfl⟩
     gi_wp2
     go_roundw
     case rel => exact ⟨k + 1, hlt, by go_num, by rw [HNX.out]; exact HJr, HRr, HO⟩
     case measure => simp [intOf]; try omega
    ·obtain ⟨hr0, hr1, -⟩ := spill_pos hsp
     obtain ⟨rn, rfl⟩ := Int.eq_ofNat_of_zero_le hr0
     have HNX : Hid ((((U.take (k + 1)).filter (spillB s)).map fun r => NL + r.toNat) = (((U.take k).filter (spillB s)).map fun r => NL + r.toNat) ++ [NL + rn]) := by
      show _ = _
      rw [HTK.out, hsp]; simp
     have HMR : Hid (NL + rn ∈ readsH s NL load i) := by
      show _ ∈ _
      rw [HRD.out, List.mem_append, List.mem_map]
      exact .inr ⟨(rn : Int), List.mem_filter.2 ⟨HME.out, hsp⟩, rfl⟩
     have HRG := Lib.hid (hreg_c bf nm p vo vb bv vs vf vg al NL cl rn wr HRr.out.box hNL (by omega))
     obtain ⟨fn, tmps, assign, body, hy, hRd⟩ := HY.out _ (NL + rn) wr HJr.out HMR.out
     simp only [Int.natCast_add] at hy
     have hRd := Lib.hid hRd
     rw [hsp] at HSP
     gi_wp2
     refine (callsIn_wide.2 HSP.out).mono ?_
     rintro e w5 ⟨rfl, rfl⟩
     gi_wp2
     refine (callsIn_wide.2 HRG.out).mono ?_
     rintro e w6 ⟨rfl, rfl⟩
     gi_wp2
     refine hRd.out.mono ?_
     clear hRd hy
     rintro e W3 (⟨rfl, hJ3, hk3⟩ | ⟨rfl, hJx3⟩)
     ·have HJ3 := Lib.hid hJ3
      have HR3 := Lib.hid (HRr.out.kp hk3 h1 h2 HG.out)
      have HO3 : Hid (OwnI W3 W1.heap.size (.slice (some ⟨bL, oL, none⟩) U.length cL) U) := hk3.own HO.out (own_ne_block HO.out hgl) (own_ne_block HO.out hhl)
      clear hJ3 hk3
      gi_wp2
      go_roundw
      case rel => exact ⟨k + 1, hlt, by go_num, by rw [HNX.out, ← List.append_assoc]; exact HJ3, HR3, HO3⟩
      case measure => simp [intOf]; try omega
     ·gi_wp2
      refine bodyPost_ret (results_none rfl _ _ _) rfl ?_
      exact ⟨⟨_, rfl⟩, .inr ⟨_, hJx3⟩⟩
   ·obtain rfl : k = U.length := by omega
    gi_wp2
    go_end0
    refine ⟨⟨_, rfl⟩, .inl ⟨_, ?_, HJr.out⟩⟩
    rw [HRD.out, List.take_length]
    exact HEND.out _
 ·have HMR : Hid (load ∈ readsH s NL load i) := by
   show _ ∈ _
   rw [HRD.out, if_pos (by simpa using h5)]; simp
  obtain ⟨fn, tmps, assign, body, hy, hRd⟩ := HY.out _ load W1 HJ0.out HMR.out
  have hRd := Lib.hid hRd
  gi_wp2
  refine hRd.out.mono ?_
  clear hRd hy
  rintro e WX (⟨rfl, hJ3, hk3⟩ | ⟨rfl, hJx3⟩)
  ·have HJX : Hid (J [load] WX) := hJ3
   have HEND : Hid (∀ z : List Nat, [load] ++ z = (if i.op = 5 then [load] else []) ++ z) := fun z => by rw [if_pos (by simpa using h5)]
   have HRX := Lib.hid (HR.out.kp hk3 h1 h2 HG.out)
   have HSX : Hid (W1.heap.size ≤ WX.heap.size) := hk3.size
   clear hJ3 hk3 HR HJ0 y0 z0 ly lz
   obtain ⟨d0, d1, d2, d3, d4, d5, d6, d7, d8, d9, d10, ld⟩ := cl11 HRX.out.ins
   have HUS := Lib.hid (uses_c i (.agg #[.int .i64 i.op, .int .i64 i.d, .int .i64 i.a, .int .i64 i.b, .int .i64 i.fn, .int .i64 i.obj, .int .i64 i.off, .int .i64 i.size, .int .u32 i.num, .slice va i.args.length vc, .bool i.log]) WX ⟨_, rfl, HVA.out.ext (Ext.below HRX.out.be)⟩ hal)
   gi_wp2
   refine (callsIn_wide.2 HUS.out).mono ?_
   clear HUS
   rintro e w2 ⟨vL, rfl, hoL, hb2⟩
   have HR2 := Lib.hid (HRX.out.below hb2)
   have HJ2 := Lib.hid (HJ.out _ _ _ HJX.out hb2)
   have HO2 : Hid (OwnI w2 W1.heap.size vL (usesI i)) := by
    obtain ⟨e1, e2⟩ := hoL
    rcases e2 with ⟨a, b⟩ | ⟨g', cap, cur, a, b, c⟩
    ·exact ⟨e1, .inl ⟨a, b⟩⟩
    ·exact ⟨e1, .inr ⟨g', cap, cur, a, Nat.le_trans HSX.out b, c⟩⟩
   obtain ⟨aL, cL, rfl⟩ := row_form hoL
   clear hoL hb2 HRX HJX d0 d1 d2 d3 d4 d5 d6 d7 d8 d9 d10 ld
   generalize usesI i = U at *
   have HUL : Hid (U.length ≤ cL ∧ cL ≤ 2 ^ 63 - 1) := by
    obtain ⟨a', c', e, h1, h2, -⟩ := OwnI.rd HO2.out
    simp only [Value.slice.injEq] at e
    obtain ⟨-, -, rfl⟩ := e
    exact ⟨h1, h2⟩
   obtain ⟨hu1, hu2⟩ := HUL.out
   gi_wp2
   gi_loopw [19] (fun j wr => ∃ k : Nat, k ≤ U.length ∧ j = .int .i64 (k : Int) ∧ Hid (J ([load] ++ ((U.take k).filter (spillB s)).map fun r => NL + r.toNat) wr) ∧ Hid (RqH w0 bf nm p vo vb bv vs (.slice al NL cl) vf vg bi bl bp i (.slice va i.args.length vc) (load : Int) wr) ∧ Hid (OwnI wr W1.heap.size (.slice aL U.length cL) U)) (fun j _ => U.length - (intOf j).toNat)
   case atStart => exact ⟨0, Nat.zero_le _, rfl, by show J _ _; simpa using HJ2.out, HR2, HO2⟩
   case round =>
    clear HR2 HJ2 HO2
    obtain ⟨k, hk, rfl, HJr, HRr, HO⟩ := hrel
    by_cases hlt : k < U.length
    ·have q1 : decide (k < U.length) = true := decide_eq_true hlt
     have q2 : decide ((k : Int) < (U.length : Int)) = true := decide_eq_true (by omega)
     obtain ⟨a', c', e, -, -, hcl⟩ := OwnI.rd HO.out
     simp only [Value.slice.injEq] at e
     obtain ⟨rfl, -, rfl⟩ := e
     obtain ⟨bL, oL, haL, hcell⟩ := hcl k hlt
     subst haL
     simp only [Nat.mul_one, Nat.add_zero] at hcell
     have HTK : Hid ((U.take (k + 1)).filter (spillB s) = (U.take k).filter (spillB s) ++ (if spillB s (U.getD k 0) = true then [U.getD k 0] else [])) := by
      show _ = _
      have e : U.getD k 0 = U[k] := by simp [List.getD, hlt]
      rw [e, List.take_succ_eq_append_getElem hlt, List.filter_append]
      congr 1
      by_cases h : spillB s U[k] = true
      ·simp [h]
      ·simp [h]
     have HME : Hid (U.getD k 0 ∈ U) := getD_in22 hlt
     generalize U.getD k 0 = r at *
     obtain ⟨p0, -⟩ := cl1 HRr.out.pt
     obtain ⟨-, -, -, -, -, -, -, y7, -, -, -, ly⟩ := cl11 HRr.out.box
     have HSP := Lib.hid (spills_c vs s r wr (HVS.out.ext (Ext.below HRr.out.be)))
     have lL := World.block_lt_of_cell? wr _ hcell
     have lp := World.block_lt_of_cell? wr _ p0
     clear hcl
     cases hsp : spillB s r
     ·have HNX : Hid ((U.take (k + 1)).filter (spillB s) = (U.take k).filter (spillB s)) := by
       show _ = _
       rw [HTK.out, hsp]; simp
      rw [hsp] at HSP
      gi_wp2
      refine (callsIn_wide.2 HSP.out).mono ?_
      rintro e w5 ⟨rfl, rfl⟩
      gi_wp2
      go_roundw
      case rel => exact ⟨k + 1, hlt, by go_num, by rw [HNX.out]; exact HJr, HRr, HO⟩
      case measure => simp [intOf]; try omega
     ·obtain ⟨hr0, hr1, -⟩ := spill_pos hsp
      obtain ⟨rn, rfl⟩ := Int.eq_ofNat_of_zero_le hr0
      have HNX : Hid ((((U.take (k + 1)).filter (spillB s)).map fun r => NL + r.toNat) = (((U.take k).filter (spillB s)).map fun r => NL + r.toNat) ++ [NL + rn]) := by
       show _ = _
       rw [HTK.out, hsp]; simp
      have HMR : Hid (NL + rn ∈ readsH s NL load i) := by
       show _ ∈ _
       rw [HRD.out, List.mem_append, List.mem_map]
       exact .inr ⟨(rn : Int), List.mem_filter.2 ⟨HME.out, hsp⟩, rfl⟩
      have HRG := Lib.hid (hreg_c bf nm p vo vb bv vs vf vg al NL cl rn wr HRr.out.box hNL (by omega))
      obtain ⟨fn, tmps, assign, body, hy, hRd⟩ := HY.out _ (NL + rn) wr HJr.out HMR.out
      simp only [Int.natCast_add] at hy
      have hRd := Lib.hid hRd
      rw [hsp] at HSP
      gi_wp2
      refine (callsIn_wide.2 HSP.out).mono ?_
      rintro e w5 ⟨rfl, rfl⟩
      gi_wp2
      refine (callsIn_wide.2 HRG.out).mono ?_
      rintro e w6 ⟨rfl, rfl⟩
      gi_wp2
      refine hRd.out.mono ?_
      clear hRd hy
      rintro e W3 (⟨rfl, hJ3, hk3⟩ | ⟨rfl, hJx3⟩)
      ·have HJ3 := Lib.hid hJ3
       have HR3 := Lib.hid (HRr.out.kp hk3 h1 h2 HG.out)
       have HO3 : Hid (OwnI W3 W1.heap.size (.slice (some ⟨bL, oL, none⟩) U.length cL) U) := hk3.own HO.out (own_ne_block HO.out hgl) (own_ne_block HO.out hhl)
       clear hJ3 hk3
       gi_wp2
       go_roundw
       case rel => exact ⟨k + 1, hlt, by go_num, by rw [HNX.out, ← List.append_assoc]; exact HJ3, HR3, HO3⟩
       case measure => simp [intOf]; try omega
      ·gi_wp2
       refine bodyPost_ret (results_none rfl _ _ _) rfl ?_
       exact ⟨⟨_, rfl⟩, .inr ⟨_, hJx3⟩⟩
    ·obtain rfl : k = U.length := by omega
     gi_wp2
     go_end0
     refine ⟨⟨_, rfl⟩, .inl ⟨_, ?_, HJr.out⟩⟩
     rw [HRD.out, List.take_length]
     exact HEND.out _
  ·gi_wp2
   refine bodyPost_ret (results_none rfl _ _ _) rfl ?_
   exact ⟨⟨_, rfl⟩, .inr ⟨_, hJx3⟩⟩
end Go.Proofs.Ytmcddolkpcgddaa
