/-
 A builder of strings, written to: its two functions that the shelf does not lay at this program (after the shelf's own proofs).; DERIVED: THE SHELF's CONTRACTS AT THIS DUMP, IN PLAIN WORDS (tools/lay-plain.mjs out of 'TrydShelf.lean', which tools/lay-shelf.mjs wrote): THE SAME DECLARATIONS UNDER THE SAME NAMES: 'import', 'namespace', 'open', 'def', 'theorem' AND NOTHING ELSE: no command of the shelf's: FOR A HAND-IN. Each laying: the table of numbers ('.._ren') and one theorem, a field a fact of the dump's own or the kernel's comparison; each contract: ONE APPLICATION.; Numbers as text, each with a blank ahead: the walk.
-/
import Derived.Test.YtkhfddodmjnecaaDoorProg
import Derived.Shelf.Strings.Builder1
import Derived.Shelf.Strings.BuilderF
import Derived.Shelf.Strings.BuilderK
import Derived.Shelf.Strconv.Itoa0
import Derived.Shelf.Strconv.Itoa1
import Derived.Shelf.LaysM
import Derived.Shelf.Strconv.Itoa2
import Derived.Shelf.Strconv.Itoa3
import Derived.Shelf.Strings.BuilderCap
import Derived.Shelf.Slices.Reverse
import Derived.Shelf.Slices.Cells
import Derived.Test.YtkhfddodmjnecaaDoorZFoldTwice47
import Derived.Test.YtkhfddodmjnecaaDoorZFoldTwice10
import Derived.Lib.SmallJoins
import Derived.Lib.ItoaLen
import Derived.Lib.AppendIntMem
import Derived.BigQuiet

set_option linter.all false
namespace Go.Proofs.YtkhfddodmjnecaaDoor
open Go.Shelf Go.RowKit
set_option maxHeartbeats 2000000
set_option linter.unusedVariables false
set_option maxRecDepth 100000

theorem bsize : (Tryd.prog.info? 61).map (·.size) = some 2 := by kernel_rfl
theorem blies : liesAt Tryd.prog Tryd.prog.depth 61 (2 / Tryd.prog.cellsOf 61) 0 61 1 = true := by kernel_rfl
theorem binfo : (Tryd.prog.info? 5).map (fun i => (i.zero, i.size, i.bytes)) = some (some (.int .u8 0), 1, 1) := by kernel_rfl
/-- a builder that has been used: nothing turns -/
theorem copy_used (b : Nat) (w : World) (h0 : w.cell? ⟨b, 0, none⟩ = some (.pointer (some ⟨b, 0, none⟩))) :
  Calls Tryd.prog 34 #[.pointer (some ⟨b, 0, none⟩)] w fun e w' => e = .returned (.tuple #[]) ∧ w' = w := by
 obtain ⟨j, hj, _⟩ := Option.map_eq_some_iff.1 bsize
 go_enter Tryd.func34, Tryd.ntmps34
 go_wp2
 rw [Lib.run_neq_ptr_same w _ Tryd.underlying58 hj]
 go_wp2
 go_end0
 exact ⟨rfl, rfl⟩
/-- a fresh one stores its own address -/
theorem copy_fresh (b : Nat) (w : World) (h0 : w.cell? ⟨b, 0, none⟩ = some (.pointer none)) (hsh : w.shape? b = some (61, 2)) (hfz : w.frozen? ⟨b, 0, none⟩ = false) :
  Calls Tryd.prog 34 #[.pointer (some ⟨b, 0, none⟩)] w fun e w' => e = .returned (.tuple #[]) ∧ w' = w.setCell ⟨b, 0, none⟩ (.pointer (some ⟨b, 0, none⟩)) := by
 obtain ⟨j, hj, hjs⟩ := Option.map_eq_some_iff.1 bsize
 go_enter Tryd.func34, Tryd.ntmps34
 go_wp2
 rw [Lib.run_to_unsafe w ⟨b, 0, none⟩ Tryd.underlying58 Tryd.underlying109 hj (by rw [hjs]; decide) hsh (Nat.zero_lt_succ 1)]
 simp only [Result.andThen]
 rw [Oper.upon_value]
 go_wp2
 rw [run_callFunc_extern Tryd.func48 (by kernel_rfl) (by kernel_rfl) (by kernel_rfl) (e := Extern.AbiNoEscape.same) (by kernel_rfl)]
 rw [Lib.run_noEscape]
 simp only [Result.andThen]
 rw [Oper.upon_value]
 go_wp2
 rw [Lib.run_from_unsafe w ⟨b, 0, none⟩ Tryd.underlying109 Tryd.underlying58 hj hsh blies]
 simp only [Result.andThen]
 rw [Oper.upon_value]
 go_wp2
 go_end0
 exact ⟨rfl, rfl⟩
theorem copy_c (B b : Nat) (bs : List Value) (w : World) (h : Lib.IsBuilder 61 5 B b bs w) :
  Calls Tryd.prog 34 #[.pointer (some ⟨b, 0, none⟩)] w fun e w' => e = .returned (.tuple #[]) ∧ (Lib.BuilderAt 61 5 B b (.pointer (some ⟨b, 0, none⟩)) bs w' ∧ Below B w w' ∧ ∀ k, k ≠ b → w'.heap[k]? = w.heap[k]?) := by
 rcases h with h | h
 ·refine (copy_fresh b w h.cell0 h.shape h.frozen0).mono ?_
  rintro e w' ⟨rfl, rfl⟩
  exact ⟨rfl, h.used _, (Below.refl B w).setCell (p := ⟨b, 0, none⟩) h.1 _, fun k hk => heap_setCell_other w ⟨b, 0, none⟩ k _ hk⟩
 ·refine (copy_used b w h.cell0).mono ?_
  rintro e w' ⟨rfl, rfl⟩
  exact ⟨rfl, h, Below.refl B _, fun _ _ => rfl⟩
/-- no row of bytes, and not the builder: it stays -/
def Stays (b : Nat) (w w' : World) : Prop := ∀ k c t f, k ≠ b → t ≠ 5 → w.heap[k]? = some (.cells c t f) → w'.heap[k]? = w.heap[k]?
/-- WriteString: the text stands behind what there was -/
theorem write_c (B b : Nat) (bs : List Value) (s : ByteArray) (w : World) (h : Lib.IsBuilder 61 5 B b bs w) (hlen : bs.length + s.size ≤ 140737488355328) (hBw : B ≤ w.heap.size) :
  Calls Tryd.prog 20 #[.pointer (some ⟨b, 0, none⟩), .string s] w fun e w' => e = .returned (.tuple #[.int .i64 s.size, .nilIface]) ∧ (Lib.BuilderAt 61 5 B b (.pointer (some ⟨b, 0, none⟩)) (bs ++ Lib.strCells s) w' ∧ Below B w w' ∧ Stays b w w') := by
 obtain ⟨i0, hi, hz0, hz1, hz2⟩ := info_parts binfo
 go_enter Tryd.func20, Tryd.ntmps20
 go_wp2_with (go_at_call 34; refine (copy_c B b bs _ h).mono ?_)
 rintro e w1 ⟨rfl, h1, hb1, hst⟩
 have HST := hst
 clear hst
 obtain ⟨hB, v, hbk, hown, hne⟩ := h1
 have c0 : w1.cell? ⟨b, 0, none⟩ = some (.pointer (some ⟨b, 0, none⟩)) := by rw [Lib.cell_of_heap hbk]; rfl
 have c1 : w1.cell? ⟨b, 1, none⟩ = some v := by rw [Lib.cell_of_heap hbk]; rfl
 go_wp2_with (at_builtin; refine Lib.wpList_append_own_string _ rfl _ _ 59 9 rfl B 5 i0 Tryd.underlying59 Tryd.underlying9 hi hz0 hz1 hz2 _ _ _ rfl hown s rfl ?c3 ?c4 ?c5 ?_)
 case c3 => unfold maxLen; omega
 case c4 => omega
 case c5 => have := hb1.size; omega
 intro v' w2 hown' hgrow _
 have hlt : b < w1.heap.size := by
  rcases Nat.lt_or_ge b w1.heap.size with h' | h'
  ·exact h'
  ·simp [Array.getElem?_eq_none h'] at hbk
 have hb2 : w2.heap[b]? = some (.cells #[.pointer (some ⟨b, 0, none⟩), v] 61 (0, 0)) := by
  rw [hgrow.block b hlt (fun e => hne e.symm)]
  exact hbk
 have d0 : w2.cell? ⟨b, 0, none⟩ = some (.pointer (some ⟨b, 0, none⟩)) := by rw [Lib.cell_of_heap hb2]; rfl
 have d1 : w2.cell? ⟨b, 1, none⟩ = some v := by rw [Lib.cell_of_heap hb2]; rfl
 have f1 : w2.frozen? ⟨b, 1, none⟩ = false := Lib.frozen_of_heap hb2 1
 obtain ⟨ao, n', cap, rfl⟩ : ∃ ao n' cap, v' = .slice ao n' cap := by
  rcases hown'.2 with ⟨hv, _⟩ | ⟨g, cap, cur, hv, _⟩
  ·exact ⟨_, _, _, hv⟩
  ·exact ⟨_, _, _, hv⟩
 go_wp2
 go_ret2
 refine ⟨rfl, ?_, ?_, ?_⟩
 ·exact Lib.BuilderAt.put (T := 61) (e := 5) hB hb2 (bs' := bs ++ Lib.strCells s) (by simpa [Lib.strCells_length] using hown') (by decide)
 ·exact (hb1.grown hgrow (by have := hb1.size; omega) (fun k hk => (hown.lt k hk).1)).setCell (p := ⟨b, 1, none⟩) hB _
 ·intro k c t f hk ht hc
  have h1k : w1.heap[k]? = some (.cells c t f) := (HST k hk).trans hc
  have hkl : k < w1.heap.size := (Array.getElem?_eq_some_iff.1 h1k).1
  rw [heap_setCell_other w2 ⟨b, 1, none⟩ k _ hk, hgrow.block k hkl (fun e => ?_)]
  ·exact HST k hk
  ·obtain ⟨-, ⟨hv, -⟩ | ⟨g, cap, cur, hv, -, hg, -⟩⟩ := hown
   ·rw [hv] at e; cases e
   ·rw [hv] at e
    simp only [Value.ownBlock, Option.some.injEq] at e
    subst e
    rw [hg] at h1k
    simp only [Option.some.injEq, Obj.cells.injEq] at h1k
    exact ht h1k.2.1.symm
end Go.Proofs.YtkhfddodmjnecaaDoor

namespace Go.Proofs
open Go.Shelf
def Tryd.lays169_ren : Go.Shelf.Ren := ⟨fun | 169 => 23 | n => n, fun | 70 => 58 | 9 => 9 | 0 => 0 | 72 => 61 | 37 => 59 | 127 => 89 | 3 => 3 | 5 => 5 | n => n, fun | n => n⟩
theorem Tryd.lays169 : Go.Proofs.Lays.n169 Tryd.prog Tryd.lays169_ren := {
 mixed := by kernel_rfl
 f169 := Tryd.func23.trans (congrArg some (by kernel_rfl))
 t0 := Tryd.underlying0
 a0 := Tryd.isAgg0
 z0 := Tryd.sizeOf0
 v0 := Tryd.zeroValue0
 t3 := Tryd.underlying3
 a3 := Tryd.isAgg3
 z3 := Tryd.sizeOf3
 v3 := Tryd.zeroValue3
 t9 := Tryd.underlying9
 a9 := Tryd.isAgg9
 z9 := Tryd.sizeOf9
 v9 := Tryd.zeroValue9
 t37 := Tryd.underlying59
 a37 := Tryd.isAgg59
 z37 := Tryd.sizeOf59
 v37 := Tryd.zeroValue59
 t70 := Tryd.underlying58
 a70 := Tryd.isAgg58
 z70 := Tryd.sizeOf58
 v70 := Tryd.zeroValue58
 t72 := Tryd.underlying61
 a72 := Tryd.isAgg61
 z72 := Tryd.sizeOf61
 v72 := Tryd.zeroValue61
 t127 := Tryd.underlying89
 a127 := Tryd.isAgg89
 z127 := Tryd.sizeOf89
 v127 := Tryd.zeroValue89 }
theorem Tryd.Builder_Extra_169 : Builder.Extra Tryd.prog Tryd.lays169_ren := {
 sizeBuilder := by kernel_rfl
 liesBuilder := by kernel_rfl
 t5 := Tryd.underlying5
 a5 := Tryd.isAgg5
 z5 := Tryd.sizeOf5
 v5 := Tryd.zeroValue5
 infoByte := by kernel_rfl
 cellsByte := by kernel_rfl
 sizeByte := by kernel_rfl
 neB5 := by decide }
open Go.RowKit in
/-- (*strings.Builder).String: "String returns the accumulated string.": WHATEVER THE BUILDER HOLDS. (LAID: no walk: one application.) -/
theorem Tryd.Builder_String_any (B b : Nat) (l : List UInt8) (w : World) (h : Lib.IsBuilder 61 5 B b (Lib.byteCells l) w) (hBw : B ≤ w.heap.size) :
  Calls Tryd.prog 23 #[.pointer (some ⟨b, 0, none⟩)] w fun e w' => e = .returned (.string ⟨l.toArray⟩) ∧ Below B w w' := Any.Builder_String_any Tryd.lays169 Tryd.Builder_Extra_169 B b l w h hBw
def Tryd.laysM171_ren : Go.Shelf.Ren := ⟨fun | 171 => 21 | 243 => 35 | 246 => 49 | 283 => 69 | 284 => 70 | 285 => 71 | 286 => 72 | 129 => 87 | 317 => 86 | 318 => 88 | 319 => 89 | 320 => 90 | 337 => 94 | 338 => 95 | n => n, fun | 3 => 3 | 9 => 9 | 2 => 2 | 4 => 4 | 171 => 122 | 0 => 0 | 53 => 123 | 37 => 59 | 5 => 5 | 173 => 126 | 212 => 141 | 51 => 37 | 20 => 20 | 213 => 142 | 46 => 143 | 232 => 147 | 233 => 148 | n => n, fun | 17 => 0 | 18 => 1 | 19 => 2 | n => n⟩
theorem Tryd.laysM171 : Go.Proofs.LaysM.n171 Tryd.prog Tryd.laysM171_ren := {
 mixed := by kernel_rfl
 f129 := Tryd.func87.trans (congrArg some (by kernel_rfl))
 f171 := Tryd.func21.trans (congrArg some (by kernel_rfl))
 f243 := Tryd.func35.trans (congrArg some (by kernel_rfl))
 f246 := Tryd.func49.trans (congrArg some (by kernel_rfl))
 f283 := Tryd.func69.trans (congrArg some (by kernel_rfl))
 f284 := Tryd.func70.trans (congrArg some (by kernel_rfl))
 f285 := Tryd.func71.trans (congrArg some (by kernel_rfl))
 f286 := Tryd.func72.trans (congrArg some (by kernel_rfl))
 f317 := Tryd.func86.trans (congrArg some (by kernel_rfl))
 f318 := Tryd.func88.trans (congrArg some (by kernel_rfl))
 f319 := Tryd.func89.trans (congrArg some (by kernel_rfl))
 f320 := Tryd.func90.trans (congrArg some (by kernel_rfl))
 f337 := Tryd.func94.trans (congrArg some (by kernel_rfl))
 f338 := Tryd.func95.trans (congrArg some (by kernel_rfl))
 t0 := Tryd.underlying0
 a0 := Tryd.isAgg0
 z0 := Tryd.sizeOf0
 v0 := Tryd.zeroValue0
 t2 := Tryd.underlying2
 a2 := Tryd.isAgg2
 z2 := Tryd.sizeOf2
 v2 := Tryd.zeroValue2
 t3 := Tryd.underlying3
 a3 := Tryd.isAgg3
 z3 := Tryd.sizeOf3
 v3 := Tryd.zeroValue3
 t4 := Tryd.underlying4
 a4 := Tryd.isAgg4
 z4 := Tryd.sizeOf4
 v4 := Tryd.zeroValue4
 t5 := Tryd.underlying5
 a5 := Tryd.isAgg5
 z5 := Tryd.sizeOf5
 v5 := Tryd.zeroValue5
 t9 := Tryd.underlying9
 a9 := Tryd.isAgg9
 z9 := Tryd.sizeOf9
 v9 := Tryd.zeroValue9
 t20 := Tryd.underlying20
 a20 := Tryd.isAgg20
 z20 := Tryd.sizeOf20
 v20 := Tryd.zeroValue20
 t37 := Tryd.underlying59
 a37 := Tryd.isAgg59
 z37 := Tryd.sizeOf59
 v37 := Tryd.zeroValue59
 t46 := Tryd.underlying143
 a46 := Tryd.isAgg143
 z46 := Tryd.sizeOf143
 v46 := Tryd.zeroValue143
 t51 := Tryd.underlying37
 a51 := Tryd.isAgg37
 z51 := Tryd.sizeOf37
 v51 := Tryd.zeroValue37
 t53 := Tryd.underlying123
 a53 := Tryd.isAgg123
 z53 := Tryd.sizeOf123
 v53 := Tryd.zeroValue123
 t171 := Tryd.underlying122
 a171 := Tryd.isAgg122
 z171 := Tryd.sizeOf122
 v171 := Tryd.zeroValue122
 t173 := Tryd.underlying126
 a173 := Tryd.isAgg126
 z173 := Tryd.sizeOf126
 v173 := Tryd.zeroValue126
 t212 := Tryd.underlying141
 a212 := Tryd.isAgg141
 z212 := Tryd.sizeOf141
 v212 := Tryd.zeroValue141
 t213 := Tryd.underlying142
 a213 := Tryd.isAgg142
 z213 := Tryd.sizeOf142
 t232 := Tryd.underlying147
 a232 := Tryd.isAgg147
 z232 := Tryd.sizeOf147
 v232 := Tryd.zeroValue147
 t233 := Tryd.underlying148
 a233 := Tryd.isAgg148
 z233 := Tryd.sizeOf148
 v233 := Tryd.zeroValue148
 g17 := by kernel_rfl
 g18 := by kernel_rfl
 g19 := by kernel_rfl
 i0 := by kernel_rfl
 i2 := by kernel_rfl
 i3 := by kernel_rfl
 i4 := by kernel_rfl
 i5 := by kernel_rfl
 i9 := by kernel_rfl
 i20 := by kernel_rfl
 i37 := by kernel_rfl
 i46 := by kernel_rfl
 i51 := by kernel_rfl
 i53 := by kernel_rfl
 i171 := by kernel_rfl
 i173 := by kernel_rfl
 i212 := by kernel_rfl
 i232 := by kernel_rfl
 i233 := by kernel_rfl
 m17 := by kernel_rfl
 m18 := by kernel_rfl
 m19 := by kernel_rfl }
open Go.RowKit Go.Sort Go.Lib in
/-- strconv.Itoa: "Itoa is equivalent to FormatInt(int64(i), 10).": i's DECIMAL NUMERAL ('Lib.itoa': a '-' where i is negative, then the digits), FOR EVERY int. The world behind the call: the world before it, new blocks behind the heap (the library's 'var a [24]byte'), draws. (LAID: no walk: one application.) -/
theorem Tryd.strconv_Itoa (n : Int) (h0 : -9223372036854775808 ≤ n) (h1 : n ≤ 9223372036854775807) (w : World) (htab : Lib.TabIs Tryd.prog w "internal/strconv.uint64pow10" .u64 Lib.pow10Tab) :
  Calls Tryd.prog 21 #[.int .i64 n] w fun e w' => e = .returned (.string ⟨(Lib.itoa n).toArray⟩) ∧ ∃ k os, w' = grow (w.drewN k) os := Any.strconv_Itoa Tryd.laysM171 n h0 h1 w htab
end Go.Proofs

set_option linter.all false
namespace Go.Proofs.YtkhfddodmjnecaaDoor
open Go.Shelf Go.RowKit Go.ChangeShapes
set_option maxHeartbeats 2000000
set_option linter.unusedVariables false
set_option maxRecDepth 100000

/-- the table of powers that the library's numbers are told by -/
abbrev Pow (w : World) : Prop := Lib.TabIs Tryd.prog w "internal/strconv.uint64pow10" .u64 Lib.pow10Tab
theorem pow_named : Tryd.prog.globalNamed "internal/strconv.uint64pow10" = some 0 := by kernel_rfl
theorem numsF_le (L : List Int) (h : ∀ x ∈ L, I64 x) : (numsF L).length ≤ 22 * L.length := by
 induction L with
 | nil => exact Nat.le_refl _
 | cons x l ih =>
  have h1 := ih fun y hy => h y (List.mem_cons_of_mem _ hy)
  have hx := h x (List.mem_cons_self ..)
  have h2 := Lib.itoa_length_le x hx.1 hx.2
  have e : numsF (x :: l) = (32 :: Lib.itoa x) ++ numsF l := rfl
  rw [e, List.length_append, List.length_cons, List.length_cons]
  omega
theorem numsF_len (L : List Int) (h : ∀ x ∈ L, I64 x) (k : Nat) : (numsF (L.take k)).length ≤ 22 * k := by
 have h1 := numsF_le (L.take k) fun x hx => h x (List.mem_of_mem_take hx)
 have h2 : (L.take k).length ≤ k := by rw [List.length_take]; omega
 omega
/-- the numbers lie in a row -/
def RdNs (w : World) (a : Option Addr) (L : List Int) : Prop := L ≠ [] → ∃ b o, a = some ⟨b, o, none⟩ ∧ ∀ j, j < L.length → w.cell? ⟨b, o + j, none⟩ = some (.int .i64 (L.getD j 0))
theorem isb_below {T e : TypeId} {B b : Nat} {bs : List Value} {w w' : World} (h : Lib.IsBuilder T e B b bs w) (hb : Below w.heap.size w w') : Lib.IsBuilder T e B b bs w' := by
 have K : ∀ p, Lib.BuilderAt T e B b p bs w → Lib.BuilderAt T e B b p bs w' := fun p h => by
  have hl := h.lt
  obtain ⟨hB, v, hk, ho, hn⟩ := h
  exact ⟨hB, v, (hb.block b hl).trans hk, own_below ho hb, hn⟩
 exact h.imp (K _) (K _)
theorem nums_c (L : List Int) (a : Option Addr) (c : Nat) (w : World) (hp : Pow w) (hg : 2 < w.heap.size) (hL : ∀ x ∈ L, I64 x) (hn : L.length ≤ 1000000) (hr : RdNs w a L) :
  Calls Tryd.prog 22 #[.slice a L.length c] w fun e w' => e = .returned (.string ⟨(numsF L).toArray⟩) ∧ Below w.heap.size w w' := by
 go_enter Tryd.func22, Tryd.ntmps22
 go_wp2_with fail
 obtain ⟨W0, hW0⟩ : ∃ W0, W0 = w.alloc (.cells #[.pointer none, .slice none 0 0] 61) := ⟨_, rfl⟩
 rw [← hW0]
 have B0 : Hid (Below w.heap.size w W0) := by rw [hW0]; exact (Below.refl _ w).alloc (Nat.le_refl _) _
 have I0 : Hid (Lib.IsBuilder 61 5 w.heap.size w.heap.size (Lib.byteCells (numsF (L.take 0))) W0) := by
  rw [hW0]
  exact .inl ⟨Nat.le_refl _, _, heap_alloc_new w _, World.ownsRow_nil _ _ _ _, by simp [Value.ownBlock]⟩
 clear hW0
 have HP := Lib.hid hp
 have HR := Lib.hid hr
 clear hp hr
 go_loopw [8] (fun i wr => ∃ j : Nat, i = .int .i64 (j : Int) ∧ j ≤ L.length ∧ Hid (Lib.IsBuilder 61 5 w.heap.size w.heap.size (Lib.byteCells (numsF (L.take j))) wr) ∧ Hid (Below w.heap.size w wr)) (fun i _ => L.length - (intOf i).toNat)
 case atStart => exact ⟨0, rfl, Nat.zero_le _, I0, B0⟩
 case round =>
  obtain ⟨j, rfl, hj, HI, B1⟩ := hrel
  have hz := B1.out.size
  have hl := numsF_len L hL j
  by_cases hlt : j < L.length
  ·obtain ⟨b, o, rfl, hcl⟩ := HR.out (by intro e; rw [e] at hlt; exact absurd hlt (Nat.not_lt_zero _))
   have x0 := hcl j hlt
   have x0 := (B1.out.cell (p := ⟨b, o + j, none⟩) (World.block_lt_of_cell? w _ x0)).trans x0
   have hx : I64 (L.getD j 0) := hL _ (by rw [List.getD_eq_getElem?_getD, List.getElem?_eq_getElem hlt]; exact List.getElem_mem hlt)
   have hs : numsF (L.take (j + 1)) = numsF (L.take j) ++ (32 :: Lib.itoa (L.getD j 0)) := by
    unfold numsF
    rw [List.take_succ, List.flatMap_append, List.getElem?_eq_getElem hlt, List.getD_eq_getElem?_getD, List.getElem?_eq_getElem hlt]; simp
   have hl2 := numsF_len L hL (j + 1)
   have g1 : decide ((j : Int) < (L.length : Int)) = true := decide_eq_true (by omega)
   have g2 : decide (j < L.length) = true := decide_eq_true hlt
   clear hcl
   have hs := Lib.hid hs
   have HX := Lib.hid hx
   clear hx
   generalize L.getD j 0 = y at *
   go_wp2_with fail
   refine (Tryd.strconv_Itoa y HX.out.1 HX.out.2 wr (Go.Joins.var_stays pow_named HP.out B1.out (Nat.le_refl _))).mono ?_
   rintro e w2 ⟨rfl, hw2⟩
   have BG : Below wr.heap.size wr w2 := by
    obtain ⟨k, os, rfl⟩ := hw2
    exact Go.Lib.below_grow _ wr (Nat.le_refl _) k os
   have I2 := Lib.hid (isb_below HI.out BG)
   have B2 := Lib.hid (B1.out.trans (BG.mono hz))
   have hz2 := B2.out.size
   have hil := Lib.itoa_length_le y HX.out.1 HX.out.2
   have gi : ¬ 9223372036854775807 < 1 + (Lib.itoa y).length := by omega
   have gj : 1 + (Lib.itoa y).length ≤ 9223372036854775807 := by omega
   clear hw2 HI B1 x0
   go_wp2_with fail
   have es : ({ data := #[32] } ++ { data := (Lib.itoa y).toArray } : ByteArray) = ⟨(32 :: Lib.itoa y).toArray⟩ := ByteArray.ext (by rw [ByteArray.data_append]; simp)
   rw [es]
   refine (write_c w.heap.size w.heap.size _ _ w2 I2.out (by simp [Lib.byteCells, ByteArray.size]; omega) hz2).mono ?_
   rintro e w3 ⟨rfl, HA, B3, -⟩
   have I3 : Hid (Lib.IsBuilder 61 5 w.heap.size w.heap.size (Lib.byteCells (numsF (L.take (j + 1)))) w3) := by
    refine .inr ?_
    rw [hs.out]
    have e2 : Lib.byteCells (numsF (L.take j) ++ (32 :: Lib.itoa y)) = Lib.byteCells (numsF (L.take j)) ++ Lib.strCells ⟨(32 :: Lib.itoa y).toArray⟩ := by simp [Lib.byteCells, Lib.strCells]
    rw [e2]; exact HA
   have B4 := Lib.hid (B2.out.trans B3)
   clear HA B3 es gi gj hil
   go_wp2_with fail
   exact ⟨⟨j + 1, rfl, by omega, I3, B4⟩, by simp [intOf]; omega⟩
  ·obtain rfl : j = L.length := by omega
   have g1 : decide ((L.length : Int) < (L.length : Int)) = false := decide_eq_false (by omega)
   have g2 : decide (L.length < L.length) = false := decide_eq_false (by omega)
   rw [List.take_length] at HI
   go_wp2_with fail
   refine (Tryd.Builder_String_any w.heap.size w.heap.size _ wr HI.out hz).mono ?_
   rintro e w3 ⟨rfl, B3⟩
   go_wp2_with fail
   go_ret
   exact ⟨rfl, B1.out.trans B3⟩
end Go.Proofs.YtkhfddodmjnecaaDoor
