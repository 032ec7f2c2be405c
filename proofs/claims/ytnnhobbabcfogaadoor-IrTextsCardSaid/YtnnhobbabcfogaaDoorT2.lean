/-
  Numbers as text, each with a blank ahead: the walk.
-/
import Derived.Test.YtnnhobbabcfogaaDoorT0
import Derived.Test.YtnnhobbabcfogaaDoorT1
import Derived.Test.YtnnhobbabcfogaaDoorShelf
import Derived.Test.YtnnhobbabcfogaaDoorE3
import Derived.Lib.SmallJoins
import Derived.Lib.ItoaLen
import Derived.Lib.AppendIntMem
import Derived.BigQuiet
set_option linter.all false
namespace Go.Proofs.YtnnhobbabcfogaaDoor
open Go.Shelf Go.RowKit Go.ChangeShapes
set_option maxHeartbeats 2000000
set_option linter.unusedVariables false
set_option maxRecDepth 100000

/-- the table of powers that the library's numbers are told by -/
abbrev Pow (w : World) : Prop := Lib.TabIs Tryd.prog w "internal/strconv.uint64pow10" .u64 Lib.pow10Tab
theorem pow_named : Tryd.prog.globalNamed "internal/strconv.uint64pow10" = some 0 := by kernel_rfl
theorem numsF_le (L : List Int) (h : ∀ x ∈ L, I64 x) : (numsF L).length ≤ 22 * L.length := by
  induction L with
  | nil => exact Nat.le_refl _
  | cons x l ih =>
    have h1 := ih fun y hy => h y (List.mem_cons_of_mem _ hy)
    have hx := h x (List.mem_cons_self ..)
    have h2 := Lib.itoa_length_le x hx.1 hx.2
    have e : numsF (x :: l) = (32 :: Lib.itoa x) ++ numsF l := rfl
    rw [e, List.length_append, List.length_cons, List.length_cons]
    omega
theorem numsF_len (L : List Int) (h : ∀ x ∈ L, I64 x) (k : Nat) : (numsF (L.take k)).length ≤ 22 * k := by
  have h1 := numsF_le (L.take k) fun x hx => h x (List.mem_of_mem_take hx)
  have h2 : (L.take k).length ≤ k := by rw [List.length_take]; omega
  omega
/-- the numbers lie in a row -/
def RdNs (w : World) (a : Option Addr) (L : List Int) : Prop := L ≠ [] → ∃ b o, a = some ⟨b, o, none⟩ ∧ ∀ j, j < L.length → w.cell? ⟨b, o + j, none⟩ = some (.int .i64 (L.getD j 0))
theorem isb_below {T e : TypeId} {B b : Nat} {bs : List Value} {w w' : World} (h : Lib.IsBuilder T e B b bs w) (hb : Below w.heap.size w w') : Lib.IsBuilder T e B b bs w' := by
  have K : ∀ p, Lib.BuilderAt T e B b p bs w → Lib.BuilderAt T e B b p bs w' := fun p h => by
    have hl := h.lt
    obtain ⟨hB, v, hk, ho, hn⟩ := h
    exact ⟨hB, v, (hb.block b hl).trans hk, own_below ho hb, hn⟩
  exact h.imp (K _) (K _)
theorem nums_c (L : List Int) (a : Option Addr) (c : Nat) (w : World) (hp : Pow w) (hg : 2 < w.heap.size) (hL : ∀ x ∈ L, I64 x) (hn : L.length ≤ 1000000) (hr : RdNs w a L) :
    Calls Tryd.prog 44 #[.slice a L.length c] w fun e w' => e = .returned (.string ⟨(numsF L).toArray⟩) ∧ Below w.heap.size w w' := by
  go_enter Tryd.func44, Tryd.ntmps44
  go_wp2_with fail
  obtain ⟨W0, hW0⟩ : ∃ W0, W0 = w.alloc (.cells #[.pointer none, .slice none 0 0] 66) := ⟨_, rfl⟩
  rw [← hW0]
  have B0 : Hid (Below w.heap.size w W0) := by rw [hW0]; exact (Below.refl _ w).alloc (Nat.le_refl _) _
  have I0 : Hid (Lib.IsBuilder 66 5 w.heap.size w.heap.size (Lib.byteCells (numsF (L.take 0))) W0) := by
    rw [hW0]
    exact .inl ⟨Nat.le_refl _, _, heap_alloc_new w _, World.ownsRow_nil _ _ _ _, by simp [Value.ownBlock]⟩
  clear hW0
  have HP := Lib.hid hp
  have HR := Lib.hid hr
  clear hp hr
  go_loopw [8] (fun i wr => ∃ j : Nat, i = .int .i64 (j : Int) ∧ j ≤ L.length ∧ Hid (Lib.IsBuilder 66 5 w.heap.size w.heap.size (Lib.byteCells (numsF (L.take j))) wr) ∧ Hid (Below w.heap.size w wr)) (fun i _ => L.length - (intOf i).toNat)
  case atStart => exact ⟨0, rfl, Nat.zero_le _, I0, B0⟩
  case round =>
    obtain ⟨j, rfl, hj, HI, B1⟩ := hrel
    have hz := B1.out.size
    have hl := numsF_len L hL j
    by_cases hlt : j < L.length
    · obtain ⟨b, o, rfl, hcl⟩ := HR.out (by intro e; rw [e] at hlt; exact absurd hlt (Nat.not_lt_zero _))
      have x0 := hcl j hlt
      have x0 := (B1.out.cell (p := ⟨b, o + j, none⟩) (World.block_lt_of_cell? w _ x0)).trans x0
      have hx : I64 (L.getD j 0) := hL _ (by rw [List.getD_eq_getElem?_getD, List.getElem?_eq_getElem hlt]; exact List.getElem_mem hlt)
      have hs : numsF (L.take (j + 1)) = numsF (L.take j) ++ (32 :: Lib.itoa (L.getD j 0)) := by
        unfold numsF
        rw [List.take_succ, List.flatMap_append, List.getElem?_eq_getElem hlt, List.getD_eq_getElem?_getD, List.getElem?_eq_getElem hlt]; simp
      have hl2 := numsF_len L hL (j + 1)
      have g1 : decide ((j : Int) < (L.length : Int)) = true := decide_eq_true (by omega)
      have g2 : decide (j < L.length) = true := decide_eq_true hlt
      clear hcl
      have hs := Lib.hid hs
      have HX := Lib.hid hx
      clear hx
      generalize L.getD j 0 = y at *
      go_wp2_with fail
      refine (Tryd.strconv_Itoa y HX.out.1 HX.out.2 wr (Go.Joins.var_stays pow_named HP.out B1.out (Nat.le_refl _))).mono ?_
      rintro e w2 ⟨rfl, hw2⟩
      have BG : Below wr.heap.size wr w2 := by
        obtain ⟨k, os, rfl⟩ := hw2
        exact Go.Lib.below_grow _ wr (Nat.le_refl _) k os
      have I2 := Lib.hid (isb_below HI.out BG)
      have B2 := Lib.hid (B1.out.trans (BG.mono hz))
      have hz2 := B2.out.size
      have hil := Lib.itoa_length_le y HX.out.1 HX.out.2
      have gi : ¬ 9223372036854775807 < 1 + (Lib.itoa y).length := by omega
      have gj : 1 + (Lib.itoa y).length ≤ 9223372036854775807 := by omega
      clear hw2 HI B1 x0
      go_wp2_with fail
      have es : ({ data := #[32] } ++ { data := (Lib.itoa y).toArray } : ByteArray) = ⟨(32 :: Lib.itoa y).toArray⟩ := ByteArray.ext (by rw [ByteArray.data_append]; simp)
      rw [es]
      refine (write_c w.heap.size w.heap.size _ _ w2 I2.out (by simp [Lib.byteCells, ByteArray.size]; omega) hz2).mono ?_
      rintro e w3 ⟨rfl, HA, B3, -⟩
      have I3 : Hid (Lib.IsBuilder 66 5 w.heap.size w.heap.size (Lib.byteCells (numsF (L.take (j + 1)))) w3) := by
        refine .inr ?_
        rw [hs.out]
        have e2 : Lib.byteCells (numsF (L.take j) ++ (32 :: Lib.itoa y)) = Lib.byteCells (numsF (L.take j)) ++ Lib.strCells ⟨(32 :: Lib.itoa y).toArray⟩ := by simp [Lib.byteCells, Lib.strCells]
        rw [e2]; exact HA
      have B4 := Lib.hid (B2.out.trans B3)
      clear HA B3 es gi gj hil
      go_wp2_with fail
      exact ⟨⟨j + 1, rfl, by omega, I3, B4⟩, by simp [intOf]; omega⟩
    · obtain rfl : j = L.length := by omega
      have g1 : decide ((L.length : Int) < (L.length : Int)) = false := decide_eq_false (by omega)
      have g2 : decide (L.length < L.length) = false := decide_eq_false (by omega)
      rw [List.take_length] at HI
      go_wp2_with fail
      refine (Tryd.Builder_String_any w.heap.size w.heap.size _ wr HI.out hz).mono ?_
      rintro e w3 ⟨rfl, B3⟩
      go_wp2_with fail
      go_ret
      exact ⟨rfl, B1.out.trans B3⟩
end Go.Proofs.YtnnhobbabcfogaaDoor
