/-
 The example of law 20 (awake): the walk. (Not finished: one sorry.); The lines of a procedure, as plain bytes.; A builder of strings, written to: its two functions that the shelf does not lay at this program (after the shelf's own proofs).; DERIVED: THE SHELF's CONTRACTS AT THIS DUMP, IN PLAIN WORDS (tools/lay-plain.mjs out of 'TryzShelf.lean', which tools/lay-shelf.mjs wrote): THE SAME DECLARATIONS UNDER THE SAME NAMES: 'import', 'namespace', 'open', 'def', 'theorem' AND NOTHING ELSE: no command of the shelf's: FOR A HAND-IN. Each laying: the table of numbers ('.._ren') and one theorem, a field a fact of the dump's own or the kernel's comparison; each contract: ONE APPLICATION.; Numbers as text, each with a blank ahead: the walk.
-/
import Derived.Test.YtchoiankeohonaaGreatDoorZInlineAll45
import Derived.Test.YtchoiankeohonaaGreatDoorZInlineAll48
import Derived.Test.YtchoiankeohonaaGreatDoorZInlineAll02
import Derived.Lib.ItoaNum
import Derived.Test.YtchoiankeohonaaGreatDoorProg
import Derived.Shelf.Strings.Builder1
import Derived.Shelf.Strconv.Itoa0
import Derived.Shelf.Strconv.Itoa1
import Derived.Shelf.LaysM
import Derived.Shelf.Strconv.Itoa2
import Derived.Shelf.Strconv.Itoa3
import Derived.Ground.SlgnProg
import Derived.Shelf.SlicesE.Clone
import Derived.Test.YtchoiankeohonaaGreatDoorZInlineAll05
import Derived.Lib.SmallJoins
import Derived.Lib.ItoaLen
import Derived.Lib.AppendIntMem
import Derived.BigQuiet

set_option linter.all false
namespace Go.Proofs.YtchoiankeohonaaGreatDoor
open Go.ChangeShapes Go.WideShapes Go.ChangeAt Go.RowKit
set_option maxHeartbeats 8000000
set_option maxRecDepth 100000
set_option linter.unusedVariables false

def oJ (w : World) : List Obj := [.cells #[.int .i64 1, .int .i64 1, .int .i64 (-1), .int .i64 (-1), .int .i64 0, .int .i64 0, .int .i64 0, .int .i64 0, .int .u32 1, .slice none 0 0, .bool false, .int .i64 3, .int .i64 1, .int .i64 0, .int .i64 1, .int .i64 1, .int .i64 0, .int .i64 0, .int .i64 0, .int .u32 0, .slice none 0 0, .bool false] 48,
 .cells #[.slice (some ⟨w.heap.size, 0, none⟩) 2 2, .int .i64 3, .int .i64 1, .int .i64 0, .int .i64 0] 51,
 .cells #[.string ⟨#[]⟩, .bool false, .int .i64 1, .int .i64 2, .slice none 0 0, .slice (some ⟨w.heap.size + 1, 0, none⟩) 1 1] 35,
 .cells #[.int .i64 0] 3,
 .cells #[.int .i64 11, .int .i64 0, .int .i64 (-1), .int .i64 (-1), .int .i64 0, .int .i64 0, .int .i64 0, .int .i64 0, .int .u32 0, .slice none 0 0, .bool false, .int .i64 9, .int .i64 1, .int .i64 (-1), .int .i64 (-1), .int .i64 0, .int .i64 1, .int .i64 0, .int .i64 0, .int .u32 0, .slice (some ⟨w.heap.size + 1 + 1 + 1, 0, none⟩) 1 1, .bool false] 48,
 .cells #[.slice (some ⟨w.heap.size + 1 + 1 + 1 + 1, 0, none⟩) 2 2, .int .i64 3, .int .i64 1, .int .i64 0, .int .i64 0] 51,
 .cells #[.string ⟨#[]⟩, .bool false, .int .i64 0, .int .i64 2, .slice none 0 0, .slice (some ⟨w.heap.size + 1 + 1 + 1 + 1 + 1, 0, none⟩) 1 1] 35,
 .cells #[.string ⟨#[]⟩, .bool false, .int .i64 0, .int .i64 2, .slice none 0 0, .slice (some ⟨w.heap.size + 1 + 1 + 1 + 1 + 1, 0, none⟩) 1 1, .string ⟨#[]⟩, .bool false, .int .i64 1, .int .i64 2, .slice none 0 0, .slice (some ⟨w.heap.size + 1, 0, none⟩) 1 1] 35,
 .cells #[.slice none 0 0, .slice none 0 0, .slice (some ⟨w.heap.size + 1 + 1 + 1 + 1 + 1 + 1 + 1, 0, none⟩) 2 2, .int .i64 0] 26]
theorem mdJ (w : World) : MdV (allocs w (oJ w)) (.agg #[.slice none 0 0, .slice none 0 0, .slice (some ⟨w.heap.size + 1 + 1 + 1 + 1 + 1 + 1 + 1, 0, none⟩) 2 2, .int .i64 0]) jMd ∧ PrV (allocs w (oJ w)) (.agg #[.string ⟨#[]⟩, .bool false, .int .i64 1, .int .i64 2, .slice none 0 0, .slice (some ⟨w.heap.size + 1, 0, none⟩) 1 1]) jF := by
 have H := allocs_heap (oJ w) w
 have hi := RdIns.lit (w := allocs w (oJ w)) (g := w.heap.size) [((⟨1, 1, -1, -1, 0, 0, 0, 0, 1, [], false⟩ : In), vNil), ((⟨3, 1, 0, 1, 1, 0, 0, 0, 0, [], false⟩ : In), vNil)] (by simp) (H 0 (by simp [oJ])) (fun x hx => by
  simp only [List.mem_cons, List.not_mem_nil, or_false] at hx
  rcases hx with rfl | rfl <;> exact RdI.nil _)
 have hb := RdBks.lit (w := allocs w (oJ w)) (g := w.heap.size + 1) [((⟨_, 3, 1, 0, 0⟩ : Bk), rowOf' w.heap.size 2)] (by simp) (H 1 (by simp [oJ])) (fun x hx => by
  simp only [List.mem_cons, List.not_mem_nil, or_false] at hx
  subst hx; exact hi)
 have ha := RdI.lit (w := allocs w (oJ w)) (g := w.heap.size + 3) [0] (by simp) (H 3 (by simp [oJ]))
 have hj := RdIns.lit (w := allocs w (oJ w)) (g := w.heap.size + 4) [((⟨11, 0, -1, -1, 0, 0, 0, 0, 0, [], false⟩ : In), vNil), ((⟨9, 1, -1, -1, 0, 1, 0, 0, 0, [0], false⟩ : In), rowOf' (w.heap.size + 3) 1)] (by simp) (H 4 (by simp [oJ])) (fun x hx => by
  simp only [List.mem_cons, List.not_mem_nil, or_false] at hx
  rcases hx with rfl | rfl
  ·exact RdI.nil _
  ·exact ha)
 have hc := RdBks.lit (w := allocs w (oJ w)) (g := w.heap.size + 5) [((⟨_, 3, 1, 0, 0⟩ : Bk), rowOf' (w.heap.size + 4) 2)] (by simp) (H 5 (by simp [oJ])) (fun x hx => by
  simp only [List.mem_cons, List.not_mem_nil, or_false] at hx
  subst hx; exact hj)
 have hp := RdPrs.lit (w := allocs w (oJ w)) (g := w.heap.size + 7) [((⟨false, 0, 2, [], _⟩ : Pr), ⟨#[]⟩, vNil, rowOf' (w.heap.size + 5) 1), ((⟨false, 1, 2, [], _⟩ : Pr), ⟨#[]⟩, vNil, rowOf' (w.heap.size + 1) 1)] (by simp) (H 7 (by simp [oJ])) (fun x hx => by
  simp only [List.mem_cons, List.not_mem_nil, or_false] at hx
  rcases hx with rfl | rfl
  ·exact ⟨RdSls.nil _, hc⟩
  ·exact ⟨RdSls.nil _, hb⟩)
 exact ⟨⟨_, _, _, rfl, RdSls.nil _, RdYs.nil _, hp⟩, ⟨⟨#[]⟩, _, _, rfl, RdSls.nil _, hb⟩⟩
theorem fd_exit (a : Value) (b c d : Int) (w : World) : (Instr.field 41 (.agg #[a, .int .i64 b, .int .u32 c, .int .i64 d]) 2).run Tryz.prog w = .ok (.int .u32 c) w := by kernel_rfl
theorem j_sz2 : InlI jMd jM (inlP jMd jM) := inlP_ok j_ok j_md j_inv
theorem awake20_c (w : World) : Calls Tryz.prog 5 #[] w fun e w' => e = .returned (.bool true) ∧ Below w.heap.size w w' := by
 obtain ⟨W, hW⟩ : ∃ W, W = allocs w (oJ w) := ⟨_, rfl⟩
 have BW : Hid (Below w.heap.size w W) := by
  show Below _ _ _
  rw [hW]; exact allocs_below _ _
 have hmd := mdJ w
 have hH := allocs_heap (oJ w) w
 have h2 := hH 2 (by simp [oJ])
 have h8 := hH 8 (by simp [oJ])
 rw [← hW] at hmd h2 h8
 have HM := Lib.hid hmd.1
 have HF := Lib.hid hmd.2
 have H2 := Lib.hid h2
 have H8 := Lib.hid h8
 unfold oJ at H2 H8
 clear hmd hH h2 h8
 unfold allocs oJ at hW
 simp only [List.foldl_cons, List.foldl_nil] at hW
 have HW := Lib.hid hW.symm
 clear hW
 go_enter Tryz.func5, Tryz.ntmps5
 go_wp2_with fail
 rw [HW.out]
 refine (inline_c jMd _ 0 W (by decide) HM.out j_ok j_md j_sz j_inv).mono ?_
 rintro e w1 ⟨v1, rfl, hq1, hb1⟩
 have hq1 : PrV w1 v1 (inlP jMd jM) := hq1
 have hJ := j_inl
 have hR := j_run
 have hI := j_sz2
 generalize inlP jMd jM = Q at *
 have HQ := Lib.hid hq1
 have HI := Lib.hid hI
 have HRU := Lib.hid hR
 obtain ⟨nm, vo, vb, rfl, ⟨ao, co, rfl, -⟩, ⟨ab, cb, rfl, -⟩⟩ := hq1
 have gl : ((Q.blks.length : Int) == 3) = true := by rw [hJ.1]; rfl
 have gr : (Q.regs == 4) = true := by rw [hJ.2]; rfl
 have hs2 : w.heap.size + 2 < W.heap.size := (Array.getElem?_eq_some_iff.1 H2.out).1
 have hs8 : w.heap.size + 8 < W.heap.size := (Array.getElem?_eq_some_iff.1 H8.out).1
 have H2 := Lib.hid ((hb1.block _ hs2).trans H2.out)
 have H8 := Lib.hid ((hb1.block _ hs8).trans H8.out)
 have BW := Lib.hid (BW.out.trans (hb1.mono BW.out.size))
 have HM := Lib.hid (HM.out.ext (Ext.below hb1))
 have HF := Lib.hid (HF.out.ext (Ext.below hb1))
 simp only [List.getElem?_cons_succ, List.getElem?_cons_zero] at H2 H8
 clear hJ hR hI hb1 HW hs2 hs8
 obtain ⟨y0, y1, y2, y3, y4, y5, ly⟩ := cl6 H2.out
 obtain ⟨z0, z1, z2, z3, lz⟩ := cl4 H8.out
 go_wp2_with fail
 obtain ⟨W2, hW2⟩ : ∃ W2, W2 = w1.alloc (.cells #[.string nm, .bool Q.void, .int .i64 Q.params, .int .i64 Q.regs, .slice ao Q.objs.length co, .slice ab Q.blks.length cb] 35) := ⟨_, rfl⟩
 have G2 := Lib.hid (heap_of_alloc w1 _ _ hW2)
 have B2 : Hid (Below w1.heap.size w1 W2) := by
  show Below _ _ _
  rw [hW2]; exact below_alloc w1 _
 rw [← hW2]
 clear hW2
 refine (small_c jF _ W2 (HF.out.ext (Ext.below B2.out)) (j_sz.procs _ (List.mem_cons_of_mem _ (List.mem_cons_self ..)))).mono ?_
 rintro e w3 ⟨rfl, hb3⟩
 rw [j_small]
 have B3 := Lib.hid (B2.out.trans (hb3.mono B2.out.size))
 have H8 := Lib.hid ((B3.out.block _ lz).trans H8.out)
 have G2 := Lib.hid ((hb3.block _ (Array.getElem?_eq_some_iff.1 G2.out).1).trans G2.out)
 have BW := Lib.hid (BW.out.trans (B3.out.mono BW.out.size))
 have HM := Lib.hid (HM.out.ext (Ext.below B3.out))
 have HQ := Lib.hid (HQ.out.ext (Ext.below B3.out))
 clear hb3 B2 B3 HF H2 y0 y1 y2 y3 y4 y5 ly z0 z1 z2 z3 lz
 obtain ⟨z0, z1, z2, z3, lz⟩ := cl4 H8.out
 obtain ⟨y0, y1, y2, y3, y4, y5, ly⟩ := cl6 G2.out
 go_wp2_with fail
 refine (withm_c jMd Q 0 _ _ w3 HM.out HQ.out (by decide) (by decide)).mono ?_
 rintro e w4 ⟨⟨v4, rfl, hv4⟩, hb4⟩
 have BW := Lib.hid (BW.out.trans (hb4.mono BW.out.size))
 have HV4 := Lib.hid hv4
 clear hb4 HM HQ H8 G2 z0 z1 z2 z3 lz y0 y1 y2 y3 y4 y5 ly hv4
 go_wp2_with fail
 have hrw : RdW (w4.alloc (.cells #[.int .u32 4] 39)) (.slice (some ⟨w4.heap.size, 0, none⟩) 1 1) [4] := by
  refine ⟨_, _, rfl, Nat.le_refl _, by unfold maxLen; decide, fun i hi => ⟨_, _, rfl, ?_⟩⟩
  obtain rfl : i = 0 := by simp at hi; omega
  exact cell_of_heap (heap_alloc_new w4 _) 0
 have HRR := run_c (withM jMd 0 Q) v4 _ [4] 100 _ (HV4.out.ext (Ext.below (below_alloc w4 (.cells #[.int .u32 4] 39)))) hrw (j_sz.with HI.out.szP) (j_md.with HI.out.pr) (by decide) (fun x hx => by simp at hx; omega)
 refine HRR.mono ?_
 rintro e w5 ⟨v5, rfl, hov, hb5⟩
 have BW := Lib.hid (BW.out.trans (((below_alloc w4 (.cells #[.int .u32 4] 39)).trans (hb5.mono (below_alloc w4 _).size)).mono BW.out.size))
 rw [show (clampF 100).toNat = 100 by decide] at hov
 obtain ⟨aA, cA, rfl, -⟩ := hov.rd (Below.refl _ _)
 rw [HRU.out]
 clear hb5 hrw HRR HV4
 have hfd := fun a b d w => fd_exit a b 5 d w
 go_wp2_with fail
 go_ret
 exact ⟨rfl, BW.out⟩
end Go.Proofs.YtchoiankeohonaaGreatDoor

set_option linter.all false
namespace Go.Proofs.YtchoiankeohonaaGreatDoor

/-- numbers, each with a blank ahead -/
def numsF (l : List Int) : List UInt8 := l.flatMap fun n => 32 :: Lib.itoa n
/-- an instruction's line -/
def lineF (i : In) : List UInt8 :=
 numsF [i.op, i.d, i.a, i.b, i.fn, i.obj, i.off, i.size, i.num] ++ numsF i.args ++ (if i.log then [32, 108, 111, 103] else []) ++ [10]
/-- a block's lines, but for the first -/
def linesF (b : Bk) : List UInt8 := b.ins.flatMap lineF
def endF' (b : Bk) : List UInt8 := [32, 101, 110, 100] ++ numsF [b.fin, b.a, b.to, b.els] ++ [10]
def headF (n : Nat) : List UInt8 := 98 :: Lib.itoa n ++ [58, 10]
/-- the lines of the first so many blocks -/
def textN (p : Pr) (k : Nat) : List UInt8 := (List.range k).flatMap fun n => headF n ++ linesF (p.blks.getD n default) ++ endF' (p.blks.getD n default)
def textF (p : Pr) : List UInt8 := textN p p.blks.length
theorem textN_succ (p : Pr) (k : Nat) : textN p (k + 1) = textN p k ++ (headF k ++ linesF (p.blks.getD k default) ++ endF' (p.blks.getD k default)) := by
 unfold textN
 rw [List.range_succ, List.flatMap_append]
 simp
end Go.Proofs.YtchoiankeohonaaGreatDoor

set_option linter.all false
namespace Go.Proofs.YtchoiankeohonaaGreatDoor
open Go.Shelf Go.RowKit
set_option maxHeartbeats 2000000
set_option linter.unusedVariables false
set_option maxRecDepth 100000

theorem bsize : (Tryz.prog.info? 70).map (·.size) = some 2 := by kernel_rfl
theorem blies : liesAt Tryz.prog Tryz.prog.depth 70 (2 / Tryz.prog.cellsOf 70) 0 70 1 = true := by kernel_rfl
theorem binfo : (Tryz.prog.info? 5).map (fun i => (i.zero, i.size, i.bytes)) = some (some (.int .u8 0), 1, 1) := by kernel_rfl
/-- a builder that has been used: nothing turns -/
theorem copy_used (b : Nat) (w : World) (h0 : w.cell? ⟨b, 0, none⟩ = some (.pointer (some ⟨b, 0, none⟩))) :
  Calls Tryz.prog 43 #[.pointer (some ⟨b, 0, none⟩)] w fun e w' => e = .returned (.tuple #[]) ∧ w' = w := by
 obtain ⟨j, hj, _⟩ := Option.map_eq_some_iff.1 bsize
 go_enter Tryz.func43, Tryz.ntmps43
 go_wp2
 rw [Lib.run_neq_ptr_same w _ Tryz.underlying68 hj]
 go_wp2
 go_end0
 exact ⟨rfl, rfl⟩
/-- a fresh one stores its own address -/
theorem copy_fresh (b : Nat) (w : World) (h0 : w.cell? ⟨b, 0, none⟩ = some (.pointer none)) (hsh : w.shape? b = some (70, 2)) (hfz : w.frozen? ⟨b, 0, none⟩ = false) :
  Calls Tryz.prog 43 #[.pointer (some ⟨b, 0, none⟩)] w fun e w' => e = .returned (.tuple #[]) ∧ w' = w.setCell ⟨b, 0, none⟩ (.pointer (some ⟨b, 0, none⟩)) := by
 obtain ⟨j, hj, hjs⟩ := Option.map_eq_some_iff.1 bsize
 go_enter Tryz.func43, Tryz.ntmps43
 go_wp2
 rw [Lib.run_to_unsafe w ⟨b, 0, none⟩ Tryz.underlying68 Tryz.underlying116 hj (by rw [hjs]; decide) hsh (Nat.zero_lt_succ 1)]
 simp only [Result.andThen]
 rw [Oper.upon_value]
 go_wp2
 rw [run_callFunc_extern Tryz.func56 (by kernel_rfl) (by kernel_rfl) (by kernel_rfl) (e := Extern.AbiNoEscape.same) (by kernel_rfl)]
 rw [Lib.run_noEscape]
 simp only [Result.andThen]
 rw [Oper.upon_value]
 go_wp2
 rw [Lib.run_from_unsafe w ⟨b, 0, none⟩ Tryz.underlying116 Tryz.underlying68 hj hsh blies]
 simp only [Result.andThen]
 rw [Oper.upon_value]
 go_wp2
 go_end0
 exact ⟨rfl, rfl⟩
theorem copy_c (B b : Nat) (bs : List Value) (w : World) (h : Lib.IsBuilder 70 5 B b bs w) :
  Calls Tryz.prog 43 #[.pointer (some ⟨b, 0, none⟩)] w fun e w' => e = .returned (.tuple #[]) ∧ (Lib.BuilderAt 70 5 B b (.pointer (some ⟨b, 0, none⟩)) bs w' ∧ Below B w w' ∧ ∀ k, k ≠ b → w'.heap[k]? = w.heap[k]?) := by
 rcases h with h | h
 ·refine (copy_fresh b w h.cell0 h.shape h.frozen0).mono ?_
  rintro e w' ⟨rfl, rfl⟩
  exact ⟨rfl, h.used _, (Below.refl B w).setCell (p := ⟨b, 0, none⟩) h.1 _, fun k hk => heap_setCell_other w ⟨b, 0, none⟩ k _ hk⟩
 ·refine (copy_used b w h.cell0).mono ?_
  rintro e w' ⟨rfl, rfl⟩
  exact ⟨rfl, h, Below.refl B _, fun _ _ => rfl⟩
/-- no row of bytes, and not the builder: it stays -/
def Stays (b : Nat) (w w' : World) : Prop := ∀ k c t f, k ≠ b → t ≠ 5 → w.heap[k]? = some (.cells c t f) → w'.heap[k]? = w.heap[k]?
/-- WriteString: the text stands behind what there was -/
theorem write_c (B b : Nat) (bs : List Value) (s : ByteArray) (w : World) (h : Lib.IsBuilder 70 5 B b bs w) (hlen : bs.length + s.size ≤ 140737488355328) (hBw : B ≤ w.heap.size) :
  Calls Tryz.prog 23 #[.pointer (some ⟨b, 0, none⟩), .string s] w fun e w' => e = .returned (.tuple #[.int .i64 s.size, .nilIface]) ∧ (Lib.BuilderAt 70 5 B b (.pointer (some ⟨b, 0, none⟩)) (bs ++ Lib.strCells s) w' ∧ Below B w w' ∧ Stays b w w') := by
 obtain ⟨i0, hi, hz0, hz1, hz2⟩ := info_parts binfo
 go_enter Tryz.func23, Tryz.ntmps23
 go_wp2_with (go_at_call 43; refine (copy_c B b bs _ h).mono ?_)
 rintro e w1 ⟨rfl, h1, hb1, hst⟩
 have HST := hst
 clear hst
 obtain ⟨hB, v, hbk, hown, hne⟩ := h1
 have c0 : w1.cell? ⟨b, 0, none⟩ = some (.pointer (some ⟨b, 0, none⟩)) := by rw [Lib.cell_of_heap hbk]; rfl
 have c1 : w1.cell? ⟨b, 1, none⟩ = some v := by rw [Lib.cell_of_heap hbk]; rfl
 go_wp2_with (at_builtin; refine Lib.wpList_append_own_string _ rfl _ _ 55 9 rfl B 5 i0 Tryz.underlying55 Tryz.underlying9 hi hz0 hz1 hz2 _ _ _ rfl hown s rfl ?c3 ?c4 ?c5 ?_)
 case c3 => unfold maxLen; omega
 case c4 => omega
 case c5 => have := hb1.size; omega
 intro v' w2 hown' hgrow _
 have hlt : b < w1.heap.size := by
  rcases Nat.lt_or_ge b w1.heap.size with h' | h'
  ·exact h'
  ·simp [Array.getElem?_eq_none h'] at hbk
 have hb2 : w2.heap[b]? = some (.cells #[.pointer (some ⟨b, 0, none⟩), v] 70 (0, 0)) := by
  rw [hgrow.block b hlt (fun e => hne e.symm)]
  exact hbk
 have d0 : w2.cell? ⟨b, 0, none⟩ = some (.pointer (some ⟨b, 0, none⟩)) := by rw [Lib.cell_of_heap hb2]; rfl
 have d1 : w2.cell? ⟨b, 1, none⟩ = some v := by rw [Lib.cell_of_heap hb2]; rfl
 have f1 : w2.frozen? ⟨b, 1, none⟩ = false := Lib.frozen_of_heap hb2 1
 obtain ⟨ao, n', cap, rfl⟩ : ∃ ao n' cap, v' = .slice ao n' cap := by
  rcases hown'.2 with ⟨hv, _⟩ | ⟨g, cap, cur, hv, _⟩
  ·exact ⟨_, _, _, hv⟩
  ·exact ⟨_, _, _, hv⟩
 go_wp2
 go_ret2
 refine ⟨rfl, ?_, ?_, ?_⟩
 ·exact Lib.BuilderAt.put (T := 70) (e := 5) hB hb2 (bs' := bs ++ Lib.strCells s) (by simpa [Lib.strCells_length] using hown') (by decide)
 ·exact (hb1.grown hgrow (by have := hb1.size; omega) (fun k hk => (hown.lt k hk).1)).setCell (p := ⟨b, 1, none⟩) hB _
 ·intro k c t f hk ht hc
  have h1k : w1.heap[k]? = some (.cells c t f) := (HST k hk).trans hc
  have hkl : k < w1.heap.size := (Array.getElem?_eq_some_iff.1 h1k).1
  rw [heap_setCell_other w2 ⟨b, 1, none⟩ k _ hk, hgrow.block k hkl (fun e => ?_)]
  ·exact HST k hk
  ·obtain ⟨-, ⟨hv, -⟩ | ⟨g, cap, cur, hv, -, hg, -⟩⟩ := hown
   ·rw [hv] at e; cases e
   ·rw [hv] at e
    simp only [Value.ownBlock, Option.some.injEq] at e
    subst e
    rw [hg] at h1k
    simp only [Option.some.injEq, Obj.cells.injEq] at h1k
    exact ht h1k.2.1.symm
end Go.Proofs.YtchoiankeohonaaGreatDoor

namespace Go.Proofs
open Go.Shelf
def Tryz.lays169_ren : Go.Shelf.Ren := ⟨fun | 169 => 26 | n => n, fun | 70 => 68 | 9 => 9 | 0 => 0 | 72 => 70 | 37 => 55 | 127 => 97 | 3 => 3 | 5 => 5 | n => n, fun | n => n⟩
theorem Tryz.lays169 : Go.Proofs.Lays.n169 Tryz.prog Tryz.lays169_ren := {
 mixed := by kernel_rfl
 f169 := Tryz.func26.trans (congrArg some (by kernel_rfl))
 t0 := Tryz.underlying0
 a0 := Tryz.isAgg0
 z0 := Tryz.sizeOf0
 v0 := Tryz.zeroValue0
 t3 := Tryz.underlying3
 a3 := Tryz.isAgg3
 z3 := Tryz.sizeOf3
 v3 := Tryz.zeroValue3
 t9 := Tryz.underlying9
 a9 := Tryz.isAgg9
 z9 := Tryz.sizeOf9
 v9 := Tryz.zeroValue9
 t37 := Tryz.underlying55
 a37 := Tryz.isAgg55
 z37 := Tryz.sizeOf55
 v37 := Tryz.zeroValue55
 t70 := Tryz.underlying68
 a70 := Tryz.isAgg68
 z70 := Tryz.sizeOf68
 v70 := Tryz.zeroValue68
 t72 := Tryz.underlying70
 a72 := Tryz.isAgg70
 z72 := Tryz.sizeOf70
 v72 := Tryz.zeroValue70
 t127 := Tryz.underlying97
 a127 := Tryz.isAgg97
 z127 := Tryz.sizeOf97
 v127 := Tryz.zeroValue97 }
theorem Tryz.Builder_Extra_169 : Builder.Extra Tryz.prog Tryz.lays169_ren := {
 sizeBuilder := by kernel_rfl
 liesBuilder := by kernel_rfl
 t5 := Tryz.underlying5
 a5 := Tryz.isAgg5
 z5 := Tryz.sizeOf5
 v5 := Tryz.zeroValue5
 infoByte := by kernel_rfl
 cellsByte := by kernel_rfl
 sizeByte := by kernel_rfl
 neB5 := by decide }
open Go.RowKit in
/-- (*strings.Builder).String: "String returns the accumulated string.": WHATEVER THE BUILDER HOLDS. (LAID: no walk: one application.) -/
theorem Tryz.Builder_String_any (B b : Nat) (l : List UInt8) (w : World) (h : Lib.IsBuilder 70 5 B b (Lib.byteCells l) w) (hBw : B ≤ w.heap.size) :
  Calls Tryz.prog 26 #[.pointer (some ⟨b, 0, none⟩)] w fun e w' => e = .returned (.string ⟨l.toArray⟩) ∧ Below B w w' := Any.Builder_String_any Tryz.lays169 Tryz.Builder_Extra_169 B b l w h hBw
def Tryz.laysM171_ren : Go.Shelf.Ren := ⟨fun | 171 => 24 | 243 => 44 | 246 => 57 | 283 => 75 | 284 => 76 | 285 => 77 | 286 => 78 | 129 => 97 | 317 => 96 | 318 => 98 | 319 => 99 | 320 => 100 | 337 => 106 | 338 => 107 | n => n, fun | 3 => 3 | 9 => 9 | 2 => 2 | 4 => 4 | 171 => 132 | 0 => 0 | 53 => 133 | 37 => 55 | 5 => 5 | 173 => 136 | 212 => 149 | 51 => 39 | 20 => 20 | 213 => 150 | 46 => 151 | 232 => 157 | 233 => 158 | n => n, fun | 17 => 0 | 18 => 1 | 19 => 2 | n => n⟩
theorem Tryz.laysM171 : Go.Proofs.LaysM.n171 Tryz.prog Tryz.laysM171_ren := {
 mixed := by kernel_rfl
 f129 := Tryz.func97.trans (congrArg some (by kernel_rfl))
 f171 := Tryz.func24.trans (congrArg some (by kernel_rfl))
 f243 := Tryz.func44.trans (congrArg some (by kernel_rfl))
 f246 := Tryz.func57.trans (congrArg some (by kernel_rfl))
 f283 := Tryz.func75.trans (congrArg some (by kernel_rfl))
 f284 := Tryz.func76.trans (congrArg some (by kernel_rfl))
 f285 := Tryz.func77.trans (congrArg some (by kernel_rfl))
 f286 := Tryz.func78.trans (congrArg some (by kernel_rfl))
 f317 := Tryz.func96.trans (congrArg some (by kernel_rfl))
 f318 := Tryz.func98.trans (congrArg some (by kernel_rfl))
 f319 := Tryz.func99.trans (congrArg some (by kernel_rfl))
 f320 := Tryz.func100.trans (congrArg some (by kernel_rfl))
 f337 := Tryz.func106.trans (congrArg some (by kernel_rfl))
 f338 := Tryz.func107.trans (congrArg some (by kernel_rfl))
 t0 := Tryz.underlying0
 a0 := Tryz.isAgg0
 z0 := Tryz.sizeOf0
 v0 := Tryz.zeroValue0
 t2 := Tryz.underlying2
 a2 := Tryz.isAgg2
 z2 := Tryz.sizeOf2
 v2 := Tryz.zeroValue2
 t3 := Tryz.underlying3
 a3 := Tryz.isAgg3
 z3 := Tryz.sizeOf3
 v3 := Tryz.zeroValue3
 t4 := Tryz.underlying4
 a4 := Tryz.isAgg4
 z4 := Tryz.sizeOf4
 v4 := Tryz.zeroValue4
 t5 := Tryz.underlying5
 a5 := Tryz.isAgg5
 z5 := Tryz.sizeOf5
 v5 := Tryz.zeroValue5
 t9 := Tryz.underlying9
 a9 := Tryz.isAgg9
 z9 := Tryz.sizeOf9
 v9 := Tryz.zeroValue9
 t20 := Tryz.underlying20
 a20 := Tryz.isAgg20
 z20 := Tryz.sizeOf20
 v20 := Tryz.zeroValue20
 t37 := Tryz.underlying55
 a37 := Tryz.isAgg55
 z37 := Tryz.sizeOf55
 v37 := Tryz.zeroValue55
 t46 := Tryz.underlying151
 a46 := Tryz.isAgg151
 z46 := Tryz.sizeOf151
 v46 := Tryz.zeroValue151
 t51 := Tryz.underlying39
 a51 := Tryz.isAgg39
 z51 := Tryz.sizeOf39
 v51 := Tryz.zeroValue39
 t53 := Tryz.underlying133
 a53 := Tryz.isAgg133
 z53 := Tryz.sizeOf133
 v53 := Tryz.zeroValue133
 t171 := Tryz.underlying132
 a171 := Tryz.isAgg132
 z171 := Tryz.sizeOf132
 v171 := Tryz.zeroValue132
 t173 := Tryz.underlying136
 a173 := Tryz.isAgg136
 z173 := Tryz.sizeOf136
 v173 := Tryz.zeroValue136
 t212 := Tryz.underlying149
 a212 := Tryz.isAgg149
 z212 := Tryz.sizeOf149
 v212 := Tryz.zeroValue149
 t213 := Tryz.underlying150
 a213 := Tryz.isAgg150
 z213 := Tryz.sizeOf150
 t232 := Tryz.underlying157
 a232 := Tryz.isAgg157
 z232 := Tryz.sizeOf157
 v232 := Tryz.zeroValue157
 t233 := Tryz.underlying158
 a233 := Tryz.isAgg158
 z233 := Tryz.sizeOf158
 v233 := Tryz.zeroValue158
 g17 := by kernel_rfl
 g18 := by kernel_rfl
 g19 := by kernel_rfl
 i0 := by kernel_rfl
 i2 := by kernel_rfl
 i3 := by kernel_rfl
 i4 := by kernel_rfl
 i5 := by kernel_rfl
 i9 := by kernel_rfl
 i20 := by kernel_rfl
 i37 := by kernel_rfl
 i46 := by kernel_rfl
 i51 := by kernel_rfl
 i53 := by kernel_rfl
 i171 := by kernel_rfl
 i173 := by kernel_rfl
 i212 := by kernel_rfl
 i232 := by kernel_rfl
 i233 := by kernel_rfl
 m17 := by kernel_rfl
 m18 := by kernel_rfl
 m19 := by kernel_rfl }
open Go.RowKit Go.Sort Go.Lib in
/-- strconv.Itoa: "Itoa is equivalent to FormatInt(int64(i), 10).": i's DECIMAL NUMERAL ('Lib.itoa': a '-' where i is negative, then the digits), FOR EVERY int. The world behind the call: the world before it, new blocks behind the heap (the library's 'var a [24]byte'), draws. (LAID: no walk: one application.) -/
theorem Tryz.strconv_Itoa (n : Int) (h0 : -9223372036854775808 ≤ n) (h1 : n ≤ 9223372036854775807) (w : World) (htab : Lib.TabIs Tryz.prog w "internal/strconv.uint64pow10" .u64 Lib.pow10Tab) :
  Calls Tryz.prog 24 #[.int .i64 n] w fun e w' => e = .returned (.string ⟨(Lib.itoa n).toArray⟩) ∧ ∃ k os, w' = grow (w.drewN k) os := Any.strconv_Itoa Tryz.laysM171 n h0 h1 w htab
end Go.Proofs

set_option linter.all false
namespace Go.Proofs.YtchoiankeohonaaGreatDoor
open Go.Shelf Go.RowKit Go.ChangeShapes
set_option maxHeartbeats 2000000
set_option linter.unusedVariables false
set_option maxRecDepth 100000

/-- the table of powers that the library's numbers are told by -/
abbrev Pow (w : World) : Prop := Lib.TabIs Tryz.prog w "internal/strconv.uint64pow10" .u64 Lib.pow10Tab
theorem pow_named : Tryz.prog.globalNamed "internal/strconv.uint64pow10" = some 0 := by kernel_rfl
theorem numsF_le (L : List Int) (h : ∀ x ∈ L, I64 x) : (numsF L).length ≤ 22 * L.length := by
 induction L with
 | nil => exact Nat.le_refl _
 | cons x l ih =>
  have h1 := ih fun y hy => h y (List.mem_cons_of_mem _ hy)
  have hx := h x (List.mem_cons_self ..)
  have h2 := Lib.itoa_length_le x hx.1 hx.2
  have e : numsF (x :: l) = (32 :: Lib.itoa x) ++ numsF l := rfl
  rw [e, List.length_append, List.length_cons, List.length_cons]
  omega
theorem numsF_len (L : List Int) (h : ∀ x ∈ L, I64 x) (k : Nat) : (numsF (L.take k)).length ≤ 22 * k := by
 have h1 := numsF_le (L.take k) fun x hx => h x (List.mem_of_mem_take hx)
 have h2 : (L.take k).length ≤ k := by rw [List.length_take]; omega
 omega
/-- the numbers lie in a row -/
def RdNs (w : World) (a : Option Addr) (L : List Int) : Prop := L ≠ [] → ∃ b o, a = some ⟨b, o, none⟩ ∧ ∀ j, j < L.length → w.cell? ⟨b, o + j, none⟩ = some (.int .i64 (L.getD j 0))
theorem isb_below {T e : TypeId} {B b : Nat} {bs : List Value} {w w' : World} (h : Lib.IsBuilder T e B b bs w) (hb : Below w.heap.size w w') : Lib.IsBuilder T e B b bs w' := by
 have K : ∀ p, Lib.BuilderAt T e B b p bs w → Lib.BuilderAt T e B b p bs w' := fun p h => by
  have hl := h.lt
  obtain ⟨hB, v, hk, ho, hn⟩ := h
  exact ⟨hB, v, (hb.block b hl).trans hk, own_below ho hb, hn⟩
 exact h.imp (K _) (K _)
theorem nums_c (L : List Int) (a : Option Addr) (c : Nat) (w : World) (hp : Pow w) (hg : 2 < w.heap.size) (hL : ∀ x ∈ L, I64 x) (hn : L.length ≤ 1000000) (hr : RdNs w a L) :
  Calls Tryz.prog 25 #[.slice a L.length c] w fun e w' => e = .returned (.string ⟨(numsF L).toArray⟩) ∧ Below w.heap.size w w' := by
 go_enter Tryz.func25, Tryz.ntmps25
 go_wp2_with fail
 obtain ⟨W0, hW0⟩ : ∃ W0, W0 = w.alloc (.cells #[.pointer none, .slice none 0 0] 70) := ⟨_, rfl⟩
 rw [← hW0]
 have B0 : Hid (Below w.heap.size w W0) := by rw [hW0]; exact (Below.refl _ w).alloc (Nat.le_refl _) _
 have I0 : Hid (Lib.IsBuilder 70 5 w.heap.size w.heap.size (Lib.byteCells (numsF (L.take 0))) W0) := by
  rw [hW0]
  exact .inl ⟨Nat.le_refl _, _, heap_alloc_new w _, World.ownsRow_nil _ _ _ _, by simp [Value.ownBlock]⟩
 clear hW0
 have HP := Lib.hid hp
 have HR := Lib.hid hr
 clear hp hr
 go_loopw [8] (fun i wr => ∃ j : Nat, i = .int .i64 (j : Int) ∧ j ≤ L.length ∧ Hid (Lib.IsBuilder 70 5 w.heap.size w.heap.size (Lib.byteCells (numsF (L.take j))) wr) ∧ Hid (Below w.heap.size w wr)) (fun i _ => L.length - (intOf i).toNat)
 case atStart => exact ⟨0, rfl, Nat.zero_le _, I0, B0⟩
 case round =>
  obtain ⟨j, rfl, hj, HI, B1⟩ := hrel
  have hz := B1.out.size
  have hl := numsF_len L hL j
  by_cases hlt : j < L.length
  ·obtain ⟨b, o, rfl, hcl⟩ := HR.out (by intro e; rw [e] at hlt; exact absurd hlt (Nat.not_lt_zero _))
   have x0 := hcl j hlt
   have x0 := (B1.out.cell (p := ⟨b, o + j, none⟩) (World.block_lt_of_cell? w _ x0)).trans x0
   have hx : I64 (L.getD j 0) := hL _ (by rw [List.getD_eq_getElem?_getD, List.getElem?_eq_getElem hlt]; exact List.getElem_mem hlt)
   have hs : numsF (L.take (j + 1)) = numsF (L.take j) ++ (32 :: Lib.itoa (L.getD j 0)) := by
    unfold numsF
    rw [List.take_succ, List.flatMap_append, List.getElem?_eq_getElem hlt, List.getD_eq_getElem?_getD, List.getElem?_eq_getElem hlt]; simp
   have hl2 := numsF_len L hL (j + 1)
   have g1 : decide ((j : Int) < (L.length : Int)) = true := decide_eq_true (by omega)
   have g2 : decide (j < L.length) = true := decide_eq_true hlt
   clear hcl
   have hs := Lib.hid hs
   have HX := Lib.hid hx
   clear hx
   generalize L.getD j 0 = y at *
   go_wp2_with fail
   refine (Tryz.strconv_Itoa y HX.out.1 HX.out.2 wr (Go.Joins.var_stays pow_named HP.out B1.out (Nat.le_refl _))).mono ?_
   rintro e w2 ⟨rfl, hw2⟩
   have BG : Below wr.heap.size wr w2 := by
    obtain ⟨k, os, rfl⟩ := hw2
    exact Go.Lib.below_grow _ wr (Nat.le_refl _) k os
   have I2 := Lib.hid (isb_below HI.out BG)
   have B2 := Lib.hid (B1.out.trans (BG.mono hz))
   have hz2 := B2.out.size
   have hil := Lib.itoa_length_le y HX.out.1 HX.out.2
   have gi : ¬ 9223372036854775807 < 1 + (Lib.itoa y).length := by omega
   have gj : 1 + (Lib.itoa y).length ≤ 9223372036854775807 := by omega
   clear hw2 HI B1 x0
   go_wp2_with fail
   have es : ({ data := #[32] } ++ { data := (Lib.itoa y).toArray } : ByteArray) = ⟨(32 :: Lib.itoa y).toArray⟩ := ByteArray.ext (by rw [ByteArray.data_append]; simp)
   rw [es]
   refine (write_c w.heap.size w.heap.size _ _ w2 I2.out (by simp [Lib.byteCells, ByteArray.size]; omega) hz2).mono ?_
   rintro e w3 ⟨rfl, HA, B3, -⟩
   have I3 : Hid (Lib.IsBuilder 70 5 w.heap.size w.heap.size (Lib.byteCells (numsF (L.take (j + 1)))) w3) := by
    refine .inr ?_
    rw [hs.out]
    have e2 : Lib.byteCells (numsF (L.take j) ++ (32 :: Lib.itoa y)) = Lib.byteCells (numsF (L.take j)) ++ Lib.strCells ⟨(32 :: Lib.itoa y).toArray⟩ := by simp [Lib.byteCells, Lib.strCells]
    rw [e2]; exact HA
   have B4 := Lib.hid (B2.out.trans B3)
   clear HA B3 es gi gj hil
   go_wp2_with fail
   exact ⟨⟨j + 1, rfl, by omega, I3, B4⟩, by simp [intOf]; omega⟩
  ·obtain rfl : j = L.length := by omega
   have g1 : decide ((L.length : Int) < (L.length : Int)) = false := decide_eq_false (by omega)
   have g2 : decide (L.length < L.length) = false := decide_eq_false (by omega)
   rw [List.take_length] at HI
   go_wp2_with fail
   refine (Tryz.Builder_String_any w.heap.size w.heap.size _ wr HI.out hz).mono ?_
   rintro e w3 ⟨rfl, B3⟩
   go_wp2_with fail
   go_ret
   exact ⟨rfl, B1.out.trans B3⟩
end Go.Proofs.YtchoiankeohonaaGreatDoor
