/-
 The lines of a procedure, as plain bytes.; A builder of strings, written to: its two functions that the shelf does not lay at this program (after the shelf's own proofs).; Numbers as text, each with a blank ahead: the walk.
-/
import Derived.Test.YtnnhobbabcfogaaDoorZDeadDrops00
import Derived.Lib.ItoaNum
import Derived.Test.YtnnhobbabcfogaaDoorProg
import Derived.Shelf.Strings.Builder1
import Derived.Test.YtnnhobbabcfogaaDoorZDeadDrops38
import Derived.Test.YtnnhobbabcfogaaDoorZDeadDrops26
import Derived.Lib.SmallJoins
import Derived.Lib.ItoaLen
import Derived.Lib.AppendIntMem
import Derived.BigQuiet

set_option linter.all false
namespace Go.Proofs.YtnnhobbabcfogaaDoor

/-- numbers, each with a blank ahead -/
def numsF (l : List Int) : List UInt8 := l.flatMap fun n => 32 :: Lib.itoa n
/-- an instruction's line -/
def lineF (i : In) : List UInt8 :=
 numsF [i.op, i.d, i.a, i.b, i.fn, i.obj, i.off, i.size, i.num] ++ numsF i.args ++ (if i.log then [32, 108, 111, 103] else []) ++ [10]
/-- a block's lines, but for the first -/
def linesF (b : Bk) : List UInt8 := b.ins.flatMap lineF
def endF' (b : Bk) : List UInt8 := [32, 101, 110, 100] ++ numsF [b.fin, b.a, b.to, b.els] ++ [10]
def headF (n : Nat) : List UInt8 := 98 :: Lib.itoa n ++ [58, 10]
/-- the lines of the first so many blocks -/
def textN (p : Pr) (k : Nat) : List UInt8 := (List.range k).flatMap fun n => headF n ++ linesF (p.blks.getD n default) ++ endF' (p.blks.getD n default)
def textF (p : Pr) : List UInt8 := textN p p.blks.length
theorem textN_succ (p : Pr) (k : Nat) : textN p (k + 1) = textN p k ++ (headF k ++ linesF (p.blks.getD k default) ++ endF' (p.blks.getD k default)) := by
 unfold textN
 rw [List.range_succ, List.flatMap_append]
 simp
end Go.Proofs.YtnnhobbabcfogaaDoor

set_option linter.all false
namespace Go.Proofs.YtnnhobbabcfogaaDoor
open Go.Shelf Go.RowKit
set_option maxHeartbeats 2000000
set_option linter.unusedVariables false
set_option maxRecDepth 100000

theorem bsize : (Tryd.prog.info? 66).map (·.size) = some 2 := by kernel_rfl
theorem blies : liesAt Tryd.prog Tryd.prog.depth 66 (2 / Tryd.prog.cellsOf 66) 0 66 1 = true := by kernel_rfl
theorem binfo : (Tryd.prog.info? 5).map (fun i => (i.zero, i.size, i.bytes)) = some (some (.int .u8 0), 1, 1) := by kernel_rfl
/-- a builder that has been used: nothing turns -/
theorem copy_used (b : Nat) (w : World) (h0 : w.cell? ⟨b, 0, none⟩ = some (.pointer (some ⟨b, 0, none⟩))) :
  Calls Tryd.prog 64 #[.pointer (some ⟨b, 0, none⟩)] w fun e w' => e = .returned (.tuple #[]) ∧ w' = w := by
 obtain ⟨j, hj, _⟩ := Option.map_eq_some_iff.1 bsize
 go_enter Tryd.func64, Tryd.ntmps64
 go_wp2
 rw [Lib.run_neq_ptr_same w _ Tryd.underlying64 hj]
 go_wp2
 go_end0
 exact ⟨rfl, rfl⟩
/-- a fresh one stores its own address -/
theorem copy_fresh (b : Nat) (w : World) (h0 : w.cell? ⟨b, 0, none⟩ = some (.pointer none)) (hsh : w.shape? b = some (66, 2)) (hfz : w.frozen? ⟨b, 0, none⟩ = false) :
  Calls Tryd.prog 64 #[.pointer (some ⟨b, 0, none⟩)] w fun e w' => e = .returned (.tuple #[]) ∧ w' = w.setCell ⟨b, 0, none⟩ (.pointer (some ⟨b, 0, none⟩)) := by
 obtain ⟨j, hj, hjs⟩ := Option.map_eq_some_iff.1 bsize
 go_enter Tryd.func64, Tryd.ntmps64
 go_wp2
 rw [Lib.run_to_unsafe w ⟨b, 0, none⟩ Tryd.underlying64 Tryd.underlying112 hj (by rw [hjs]; decide) hsh (Nat.zero_lt_succ 1)]
 simp only [Result.andThen]
 rw [Oper.upon_value]
 go_wp2
 rw [run_callFunc_extern Tryd.func83 (by kernel_rfl) (by kernel_rfl) (by kernel_rfl) (e := Extern.AbiNoEscape.same) (by kernel_rfl)]
 rw [Lib.run_noEscape]
 simp only [Result.andThen]
 rw [Oper.upon_value]
 go_wp2
 rw [Lib.run_from_unsafe w ⟨b, 0, none⟩ Tryd.underlying112 Tryd.underlying64 hj hsh blies]
 simp only [Result.andThen]
 rw [Oper.upon_value]
 go_wp2
 go_end0
 exact ⟨rfl, rfl⟩
theorem copy_c (B b : Nat) (bs : List Value) (w : World) (h : Lib.IsBuilder 66 5 B b bs w) :
  Calls Tryd.prog 64 #[.pointer (some ⟨b, 0, none⟩)] w fun e w' => e = .returned (.tuple #[]) ∧ (Lib.BuilderAt 66 5 B b (.pointer (some ⟨b, 0, none⟩)) bs w' ∧ Below B w w' ∧ ∀ k, k ≠ b → w'.heap[k]? = w.heap[k]?) := by
 rcases h with h | h
 ·refine (copy_fresh b w h.cell0 h.shape h.frozen0).mono ?_
  rintro e w' ⟨rfl, rfl⟩
  exact ⟨rfl, h.used _, (Below.refl B w).setCell (p := ⟨b, 0, none⟩) h.1 _, fun k hk => heap_setCell_other w ⟨b, 0, none⟩ k _ hk⟩
 ·refine (copy_used b w h.cell0).mono ?_
  rintro e w' ⟨rfl, rfl⟩
  exact ⟨rfl, h, Below.refl B _, fun _ _ => rfl⟩
/-- no row of bytes, and not the builder: it stays -/
def Stays (b : Nat) (w w' : World) : Prop := ∀ k c t f, k ≠ b → t ≠ 5 → w.heap[k]? = some (.cells c t f) → w'.heap[k]? = w.heap[k]?
/-- WriteString: the text stands behind what there was -/
theorem write_c (B b : Nat) (bs : List Value) (s : ByteArray) (w : World) (h : Lib.IsBuilder 66 5 B b bs w) (hlen : bs.length + s.size ≤ 140737488355328) (hBw : B ≤ w.heap.size) :
  Calls Tryd.prog 42 #[.pointer (some ⟨b, 0, none⟩), .string s] w fun e w' => e = .returned (.tuple #[.int .i64 s.size, .nilIface]) ∧ (Lib.BuilderAt 66 5 B b (.pointer (some ⟨b, 0, none⟩)) (bs ++ Lib.strCells s) w' ∧ Below B w w' ∧ Stays b w w') := by
 obtain ⟨i0, hi, hz0, hz1, hz2⟩ := info_parts binfo
 go_enter Tryd.func42, Tryd.ntmps42
 go_wp2_with (go_at_call 64; refine (copy_c B b bs _ h).mono ?_)
 rintro e w1 ⟨rfl, h1, hb1, hst⟩
 have HST := hst
 clear hst
 obtain ⟨hB, v, hbk, hown, hne⟩ := h1
 have c0 : w1.cell? ⟨b, 0, none⟩ = some (.pointer (some ⟨b, 0, none⟩)) := by rw [Lib.cell_of_heap hbk]; rfl
 have c1 : w1.cell? ⟨b, 1, none⟩ = some v := by rw [Lib.cell_of_heap hbk]; rfl
 go_wp2_with (at_builtin; refine Lib.wpList_append_own_string _ rfl _ _ 56 9 rfl B 5 i0 Tryd.underlying56 Tryd.underlying9 hi hz0 hz1 hz2 _ _ _ rfl hown s rfl ?c3 ?c4 ?c5 ?_)
 case c3 => unfold maxLen; omega
 case c4 => omega
 case c5 => have := hb1.size; omega
 intro v' w2 hown' hgrow _
 have hlt : b < w1.heap.size := by
  rcases Nat.lt_or_ge b w1.heap.size with h' | h'
  ·exact h'
  ·simp [Array.getElem?_eq_none h'] at hbk
 have hb2 : w2.heap[b]? = some (.cells #[.pointer (some ⟨b, 0, none⟩), v] 66 (0, 0)) := by
  rw [hgrow.block b hlt (fun e => hne e.symm)]
  exact hbk
 have d0 : w2.cell? ⟨b, 0, none⟩ = some (.pointer (some ⟨b, 0, none⟩)) := by rw [Lib.cell_of_heap hb2]; rfl
 have d1 : w2.cell? ⟨b, 1, none⟩ = some v := by rw [Lib.cell_of_heap hb2]; rfl
 have f1 : w2.frozen? ⟨b, 1, none⟩ = false := Lib.frozen_of_heap hb2 1
 obtain ⟨ao, n', cap, rfl⟩ : ∃ ao n' cap, v' = .slice ao n' cap := by
  rcases hown'.2 with ⟨hv, _⟩ | ⟨g, cap, cur, hv, _⟩
  ·exact ⟨_, _, _, hv⟩
  ·exact ⟨_, _, _, hv⟩
 go_wp2
 go_ret2
 refine ⟨rfl, ?_, ?_, ?_⟩
 ·exact Lib.BuilderAt.put (T := 66) (e := 5) hB hb2 (bs' := bs ++ Lib.strCells s) (by simpa [Lib.strCells_length] using hown') (by decide)
 ·exact (hb1.grown hgrow (by have := hb1.size; omega) (fun k hk => (hown.lt k hk).1)).setCell (p := ⟨b, 1, none⟩) hB _
 ·intro k c t f hk ht hc
  have h1k : w1.heap[k]? = some (.cells c t f) := (HST k hk).trans hc
  have hkl : k < w1.heap.size := (Array.getElem?_eq_some_iff.1 h1k).1
  rw [heap_setCell_other w2 ⟨b, 1, none⟩ k _ hk, hgrow.block k hkl (fun e => ?_)]
  ·exact HST k hk
  ·obtain ⟨-, ⟨hv, -⟩ | ⟨g, cap, cur, hv, -, hg, -⟩⟩ := hown
   ·rw [hv] at e; cases e
   ·rw [hv] at e
    simp only [Value.ownBlock, Option.some.injEq] at e
    subst e
    rw [hg] at h1k
    simp only [Option.some.injEq, Obj.cells.injEq] at h1k
    exact ht h1k.2.1.symm
end Go.Proofs.YtnnhobbabcfogaaDoor

set_option linter.all false
namespace Go.Proofs.YtnnhobbabcfogaaDoor
open Go.Shelf Go.RowKit Go.ChangeShapes
set_option maxHeartbeats 2000000
set_option linter.unusedVariables false
set_option maxRecDepth 100000

/-- the table of powers that the library's numbers are told by -/
abbrev Pow (w : World) : Prop := Lib.TabIs Tryd.prog w "internal/strconv.uint64pow10" .u64 Lib.pow10Tab
theorem pow_named : Tryd.prog.globalNamed "internal/strconv.uint64pow10" = some 0 := by kernel_rfl
theorem numsF_le (L : List Int) (h : ∀ x ∈ L, I64 x) : (numsF L).length ≤ 22 * L.length := by
 induction L with
 | nil => exact Nat.le_refl _
 | cons x l ih =>
  have h1 := ih fun y hy => h y (List.mem_cons_of_mem _ hy)
  have hx := h x (List.mem_cons_self ..)
  have h2 := Lib.itoa_length_le x hx.1 hx.2
  have e : numsF (x :: l) = (32 :: Lib.itoa x) ++ numsF l := rfl
  rw [e, List.length_append, List.length_cons, List.length_cons]
  omega
theorem numsF_len (L : List Int) (h : ∀ x ∈ L, I64 x) (k : Nat) : (numsF (L.take k)).length ≤ 22 * k := by
 have h1 := numsF_le (L.take k) fun x hx => h x (List.mem_of_mem_take hx)
 have h2 : (L.take k).length ≤ k := by rw [List.length_take]; omega
 omega
/-- the numbers lie in a row -/
def RdNs (w : World) (a : Option Addr) (L : List Int) : Prop := L ≠ [] → ∃ b o, a = some ⟨b, o, none⟩ ∧ ∀ j, j < L.length → w.cell? ⟨b, o + j, none⟩ = some (.int .i64 (L.getD j 0))
theorem isb_below {T e : TypeId} {B b : Nat} {bs : List Value} {w w' : World} (h : Lib.IsBuilder T e B b bs w) (hb : Below w.heap.size w w') : Lib.IsBuilder T e B b bs w' := by
 have K : ∀ p, Lib.BuilderAt T e B b p bs w → Lib.BuilderAt T e B b p bs w' := fun p h => by
  have hl := h.lt
  obtain ⟨hB, v, hk, ho, hn⟩ := h
  exact ⟨hB, v, (hb.block b hl).trans hk, own_below ho hb, hn⟩
 exact h.imp (K _) (K _)
theorem nums_c (L : List Int) (a : Option Addr) (c : Nat) (w : World) (hp : Pow w) (hg : 2 < w.heap.size) (hL : ∀ x ∈ L, I64 x) (hn : L.length ≤ 1000000) (hr : RdNs w a L) :
  Calls Tryd.prog 44 #[.slice a L.length c] w fun e w' => e = .returned (.string ⟨(numsF L).toArray⟩) ∧ Below w.heap.size w w' := by
 go_enter Tryd.func44, Tryd.ntmps44
 go_wp2_with fail
 obtain ⟨W0, hW0⟩ : ∃ W0, W0 = w.alloc (.cells #[.pointer none, .slice none 0 0] 66) := ⟨_, rfl⟩
 rw [← hW0]
 have B0 : Hid (Below w.heap.size w W0) := by rw [hW0]; exact (Below.refl _ w).alloc (Nat.le_refl _) _
 have I0 : Hid (Lib.IsBuilder 66 5 w.heap.size w.heap.size (Lib.byteCells (numsF (L.take 0))) W0) := by
  rw [hW0]
  exact .inl ⟨Nat.le_refl _, _, heap_alloc_new w _, World.ownsRow_nil _ _ _ _, by simp [Value.ownBlock]⟩
 clear hW0
 have HP := Lib.hid hp
 have HR := Lib.hid hr
 clear hp hr
 go_loopw [8] (fun i wr => ∃ j : Nat, i = .int .i64 (j : Int) ∧ j ≤ L.length ∧ Hid (Lib.IsBuilder 66 5 w.heap.size w.heap.size (Lib.byteCells (numsF (L.take j))) wr) ∧ Hid (Below w.heap.size w wr)) (fun i _ => L.length - (intOf i).toNat)
 case atStart => exact ⟨0, rfl, Nat.zero_le _, I0, B0⟩
 case round =>
  obtain ⟨j, rfl, hj, HI, B1⟩ := hrel
  have hz := B1.out.size
  have hl := numsF_len L hL j
  by_cases hlt : j < L.length
  ·obtain ⟨b, o, rfl, hcl⟩ := HR.out (by intro e; rw [e] at hlt; exact absurd hlt (Nat.not_lt_zero _))
   have x0 := hcl j hlt
   have x0 := (B1.out.cell (p := ⟨b, o + j, none⟩) (World.block_lt_of_cell? w _ x0)).trans x0
   have hx : I64 (L.getD j 0) := hL _ (by rw [List.getD_eq_getElem?_getD, List.getElem?_eq_getElem hlt]; exact List.getElem_mem hlt)
   have hs : numsF (L.take (j + 1)) = numsF (L.take j) ++ (32 :: Lib.itoa (L.getD j 0)) := by
    unfold numsF
    rw [List.take_succ, List.flatMap_append, List.getElem?_eq_getElem hlt, List.getD_eq_getElem?_getD, List.getElem?_eq_getElem hlt]; simp
   have hl2 := numsF_len L hL (j + 1)
   have g1 : decide ((j : Int) < (L.length : Int)) = true := decide_eq_true (by omega)
   have g2 : decide (j < L.length) = true := decide_eq_true hlt
   clear hcl
   have hs := Lib.hid hs
   have HX := Lib.hid hx
   clear hx
   generalize L.getD j 0 = y at *
   go_wp2_with fail
   refine (Tryd.strconv_Itoa y HX.out.1 HX.out.2 wr (Go.Joins.var_stays pow_named HP.out B1.out (Nat.le_refl _))).mono ?_
   rintro e w2 ⟨rfl, hw2⟩
   have BG : Below wr.heap.size wr w2 := by
    obtain ⟨k, os, rfl⟩ := hw2
    exact Go.Lib.below_grow _ wr (Nat.le_refl _) k os
   have I2 := Lib.hid (isb_below HI.out BG)
   have B2 := Lib.hid (B1.out.trans (BG.mono hz))
   have hz2 := B2.out.size
   have hil := Lib.itoa_length_le y HX.out.1 HX.out.2
   have gi : ¬ 9223372036854775807 < 1 + (Lib.itoa y).length := by omega
   have gj : 1 + (Lib.itoa y).length ≤ 9223372036854775807 := by omega
   clear hw2 HI B1 x0
   go_wp2_with fail
   have es : ({ data := #[32] } ++ { data := (Lib.itoa y).toArray } : ByteArray) = ⟨(32 :: Lib.itoa y).toArray⟩ := ByteArray.ext (by rw [ByteArray.data_append]; simp)
   rw [es]
   refine (write_c w.heap.size w.heap.size _ _ w2 I2.out (by simp [Lib.byteCells, ByteArray.size]; omega) hz2).mono ?_
   rintro e w3 ⟨rfl, HA, B3, -⟩
   have I3 : Hid (Lib.IsBuilder 66 5 w.heap.size w.heap.size (Lib.byteCells (numsF (L.take (j + 1)))) w3) := by
    refine .inr ?_
    rw [hs.out]
    have e2 : Lib.byteCells (numsF (L.take j) ++ (32 :: Lib.itoa y)) = Lib.byteCells (numsF (L.take j)) ++ Lib.strCells ⟨(32 :: Lib.itoa y).toArray⟩ := by simp [Lib.byteCells, Lib.strCells]
    rw [e2]; exact HA
   have B4 := Lib.hid (B2.out.trans B3)
   clear HA B3 es gi gj hil
   go_wp2_with fail
   exact ⟨⟨j + 1, rfl, by omega, I3, B4⟩, by simp [intOf]; omega⟩
  ·obtain rfl : j = L.length := by omega
   have g1 : decide ((L.length : Int) < (L.length : Int)) = false := decide_eq_false (by omega)
   have g2 : decide (L.length < L.length) = false := decide_eq_false (by omega)
   rw [List.take_length] at HI
   go_wp2_with fail
   refine (Tryd.Builder_String_any w.heap.size w.heap.size _ wr HI.out hz).mono ?_
   rintro e w3 ⟨rfl, B3⟩
   go_wp2_with fail
   go_ret
   exact ⟨rfl, B1.out.trans B3⟩
end Go.Proofs.YtnnhobbabcfogaaDoor
