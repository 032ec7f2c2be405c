/-
 What two rows both have (fold.meet).; The table of rows in memory (fold.rows works on it).
-/
import Derived.Test.YtkhfddodmjnecaaDoorZFoldTwice23

set_option linter.all false
namespace Go.Proofs.YtkhfddodmjnecaaDoor
open Go.ChangeShapes Go.WideShapes Go.ChangeAt Go.RowKit
set_option maxHeartbeats 4000000
set_option maxRecDepth 100000
set_option linter.unusedVariables false

/-- met as far as k -/
def midC (a b : Ro) (k : Nat) : Ro := (List.range a.length).map fun i => if i < k then (if a.getD i none = b.getD i none then a.getD i none else none) else a.getD i none
theorem midC_len (a b : Ro) (k : Nat) : (midC a b k).length = a.length := by simp [midC]
theorem midC_zero (a b : Ro) : midC a b 0 = a := by
 refine List.ext_getElem (by simp [midC]) fun i h1 h2 => ?_
 simp [midC, List.getD, h2]
theorem midC_all (a b : Ro) : midC a b a.length = meetC a b := by
 refine List.ext_getElem (by simp [midC, meetC]) fun i h1 h2 => ?_
 have : i < a.length := by simpa [midC] using h1
 simp [midC, meetC, this]
theorem midC_at (a b : Ro) (k : Nat) (h : k < a.length) : (midC a b k).getD k none = a.getD k none := by
 simp [midC, List.getD, h]
theorem midC_keep (a b : Ro) (k : Nat) (h : k < a.length) (e : a.getD k none = none ∨ a.getD k none = b.getD k none) : midC a b (k + 1) = midC a b k := by
 refine List.ext_getElem (by simp [midC]) fun i h1 h2 => ?_
 have hi : i < a.length := by simpa [midC] using h1
 simp only [midC, List.getElem_map, List.getElem_range]
 by_cases h3 : i < k
 ·rw [if_pos (by omega), if_pos h3]
 ·rw [if_neg h3]
  by_cases h4 : i = k
  ·subst h4
   rw [if_pos (by omega)]
   rcases e with e | e
   ·rw [e]; split <;> rfl
   ·rw [if_pos e]
  ·rw [if_neg (by omega)]
theorem midC_none (a b : Ro) (k : Nat) (h : k < a.length) (e : a.getD k none ≠ b.getD k none) : midC a b (k + 1) = (midC a b k).set k none := by
 refine List.ext_getElem (by simp [midC]) fun i h1 h2 => ?_
 have hi : i < a.length := by simpa [midC] using h1
 rw [List.getElem_set]
 simp only [midC, List.getElem_map, List.getElem_range]
 by_cases h4 : k = i
 ·subst h4
  rw [if_pos rfl, if_pos (by omega), if_neg e]
 ·rw [if_neg h4]
  by_cases h3 : i < k
  ·rw [if_pos (by omega), if_pos h3]
  ·rw [if_neg (by omega), if_neg h3]
/-- did something go? -/
def wentC (a b : Ro) (k : Nat) : Bool := (List.range k).any fun i => (a.getD i none).isSome && decide (a.getD i none ≠ b.getD i none)
theorem wentC_succ (a b : Ro) (k : Nat) : wentC a b (k + 1) = (wentC a b k || ((a.getD k none).isSome && decide (a.getD k none ≠ b.getD k none))) := by
 unfold wentC; rw [List.range_succ, List.any_append]; simp
theorem meetC_at (a b : Ro) (i : Nat) (hi : i < a.length) : (meetC a b).getD i none = if a.getD i none = b.getD i none then a.getD i none else none := by
 unfold meetC
 rw [List.getD_eq_getElem?_getD, List.getElem?_map, List.getElem?_range hi]
 rfl
theorem wentC_iff (a b : Ro) : wentC a b a.length = true ↔ meetC a b ≠ a := by
 constructor
 ·intro h e
  unfold wentC at h
  rw [List.any_eq_true] at h
  obtain ⟨i, hi, h2⟩ := h
  have hi := List.mem_range.1 hi
  simp only [Bool.and_eq_true, decide_eq_true_eq] at h2
  have h3 : (meetC a b).getD i none = none := by rw [meetC_at a b i hi, if_neg h2.2]
  rw [e] at h3
  rw [h3] at h2
  cases h2.1
 ·intro h
  apply Classical.byContradiction
  intro hn
  apply h
  refine List.ext_getElem (by simp [meetC]) fun i h1 h2 => ?_
  simp only [meetC, List.getElem_map, List.getElem_range]
  have hg : a.getD i none = a[i] := by simp [List.getD, h2]
  rw [hg]
  by_cases e : a[i] = b.getD i none
  ·rw [if_pos e]
  ·rw [if_neg e]
   cases ha : a[i] with
   | none => rfl
   | some x =>
    exfalso
    apply hn
    unfold wentC
    rw [List.any_eq_true]
    refine ⟨i, List.mem_range.2 h2, ?_⟩
    rw [hg, ha]
    rw [ha] at e
    simpa using e
/-- what meet leaves -/
def MeetQ (g c : Nat) (a b : Ro) (w : World) (e : Ending) (w' : World) : Prop := e = .returned (.bool (wentC a b a.length)) ∧ RowQ w' g c (meetC a b) ∧ But g w w'
theorem meetC_c (g c g2 c2 : Nat) (a b : Ro) (w : World) (h : RowQ w g c a) (h2 : RowQ w g2 c2 b) (hl : b.length = a.length) (hal : a.length ≤ 1000000) (hne : g ≠ g2) :
  Calls Tryd.prog 46 #[.slice (some ⟨g, 0, none⟩) a.length c, .slice (some ⟨g2, 0, none⟩) a.length c2] w (MeetQ g c a b w) := by
 obtain ⟨q1, q2, -, q4⟩ := h.at
 obtain ⟨p1, p2, -, -⟩ := h2.at
 unfold maxLen at q2 p2
 have HA0 : Hid (RowQ w g c (midC a b 0)) := by rw [midC_zero]; exact h
 have HB0 := Lib.hid h2
 have HW : Hid (∀ k, wentC a b (k + 1) = (wentC a b k || ((a.getD k none).isSome && decide (a.getD k none ≠ b.getD k none)))) := fun k => wentC_succ a b k
 have HK : Hid (∀ k, k < a.length → (a.getD k none = none ∨ a.getD k none = b.getD k none) → midC a b (k + 1) = midC a b k) := fun k hk he => midC_keep a b k hk he
 have HNo : Hid (∀ k, k < a.length → a.getD k none ≠ b.getD k none → midC a b (k + 1) = (midC a b k).set k none) := fun k hk he => midC_none a b k hk he
 have HAT : Hid (∀ k, k < a.length → (midC a b k).getD k none = a.getD k none) := fun k hk => midC_at a b k hk
 have HLB := Lib.hid hl
 rw [hl] at p1
 clear h h2 hl
 go_enter Tryd.func46, Tryd.ntmps46
 go_wp2_with fail
 go_loopw [5, 9] (fun s i wr => ∃ k : Nat, k ≤ a.length ∧ i = .int .i64 (k : Int) ∧ s = .bool (wentC a b k) ∧ Hid (RowQ wr g c (midC a b k)) ∧ Hid (RowQ wr g2 c2 b) ∧ Hid (But g w wr)) (fun _ i _ => a.length - (intOf i).toNat)
 case atStart => exact ⟨0, Nat.zero_le _, rfl, rfl, HA0, HB0, But.refl _ _⟩
 case round =>
  clear HA0 HB0
  obtain ⟨k, hk, rfl, rfl, HA, HB, HU⟩ := hrel
  by_cases hlt : k < a.length
  ·have g1 : decide (k < a.length) = true := decide_eq_true hlt
   have g2' : decide ((k : Int) < (a.length : Int)) = true := decide_eq_true (by omega)
   obtain ⟨a0, a1⟩ := HA.out.at.2.2.1 k (by rw [midC_len]; exact hlt)
   obtain ⟨b0, b1⟩ := HB.out.at.2.2.1 k (by rw [HLB.out]; exact hlt)
   rw [HAT.out k hlt] at a0 a1
   obtain ⟨hfz, hgl⟩ := HA.out.at.2.2.2 (by rw [midC_len]; omega)
   have f0 := hfz (k * 2)
   have f1 := hfz (k * 2 + 1)
   have HWk := Lib.hid (HW.out k)
   have HKk := Lib.hid (HK.out k hlt)
   have HNk := Lib.hid (HNo.out k hlt)
   have hml := midC_len a b k
   have lg2 : g2 < wr.heap.size := World.block_lt_of_cell? _ _ b0
   generalize a.getD k none = A at *
   generalize b.getD k none = B at *
   generalize wentC a b k = WW at *
   generalize hMM : midC a b k = MM at *
   clear hMM hfz
   have HML := Lib.hid hml
   clear hml
   cases A with
   | none =>
    have HE := Lib.hid (HKk.out (.inl rfl))
    simp only [Option.isSome_none, Option.getD_none] at a0 a1
    obtain ⟨s2, hs2⟩ : ∃ s, B.isSome = s := ⟨_, rfl⟩
    obtain ⟨x2, hx2⟩ : ∃ x, B.getD 0 = x := ⟨_, rfl⟩
    rw [hs2] at b0
    rw [hx2] at b1
    clear hs2 hx2
    go_wp2_with fail
    go_quiet (fail)
    generalize hW3 : World.drewN wr _ = W3
    have BD : Below wr.heap.size wr W3 := by rw [← hW3]; exact drewN_b (Below.refl _ _) _
    have HA := Lib.hid (HA.out.below BD)
    have HB := Lib.hid (HB.out.below BD)
    have HU := Lib.hid (HU.out.trans (But.below BD))
    clear hW3 BD a0 a1 b0 b1 f0 f1
    go_wp2_with fail
    go_roundw
    case rel => exact ⟨k + 1, hlt, by go_num, by rw [HWk.out]; simp, by rw [HE.out]; exact HA, HB, HU⟩
    case measure => simp [intOf]; omega
   | some x =>
    simp only [Option.isSome_some, Option.getD_some] at a0 a1
    by_cases hxb : B = some x
    ·have HE := Lib.hid (HKk.out (.inr hxb.symm))
     subst hxb
     simp only [Option.isSome_some, Option.getD_some] at b0 b1
     go_wp2_with fail
     go_quiet (fail)
     generalize hW3 : World.drewN wr _ = W3
     have BD : Below wr.heap.size wr W3 := by rw [← hW3]; exact drewN_b (Below.refl _ _) _
     have HA := Lib.hid (HA.out.below BD)
     have HB := Lib.hid (HB.out.below BD)
     have HU := Lib.hid (HU.out.trans (But.below BD))
     clear hW3 BD a0 a1 b0 b1 f0 f1
     go_wp2_with fail
     go_roundw
     case rel => exact ⟨k + 1, hlt, by go_num, by rw [HWk.out]; simp, by rw [HE.out]; exact HA, HB, HU⟩
     case measure => simp [intOf]; omega
    ·have HE := Lib.hid (HNk.out fun e => hxb e.symm)
     have hdd : decide (some x ≠ B) = true := decide_eq_true fun e => hxb e.symm
     rw [hdd, Option.isSome_some, Bool.and_true] at HWk
     clear hdd HKk HNk
     cases B with
     | none =>
      simp only [Option.isSome_none, Option.getD_none] at b0 b1
      clear hxb
      go_wp2_with fail
      go_quiet (fail)
      generalize hW3 : World.drewN wr _ = W3
      have BD : Below wr.heap.size wr W3 := by rw [← hW3]; exact drewN_b (Below.refl _ _) _
      have HA := Lib.hid (HA.out.below BD)
      have HB := Lib.hid (HB.out.below BD)
      have HU := Lib.hid (HU.out.trans (But.below BD))
      have a0 : W3.cell? ⟨g, k * 2, none⟩ = _ := (BD.cell (p := ⟨g, k * 2, none⟩) hgl).trans a0
      have a1 : W3.cell? ⟨g, k * 2 + 1, none⟩ = _ := (BD.cell (p := ⟨g, k * 2 + 1, none⟩) hgl).trans a1
      have f0 : W3.frozen? ⟨g, k * 2, none⟩ = false := (BD.frozen (p := ⟨g, k * 2, none⟩) hgl).trans f0
      have f1 : W3.frozen? ⟨g, k * 2 + 1, none⟩ = false := (BD.frozen (p := ⟨g, k * 2 + 1, none⟩) hgl).trans f1
      clear hW3 BD b0 b1
      have HA5 := Lib.hid (HA.out.set2 (d := k) (by rw [HML.out]; exact hlt) none)
      have HB5 := Lib.hid ((HB.out.but (But.setCell g (k * 2) W3 (.bool false)) (Ne.symm hne)).but (But.setCell g (k * 2 + 1) _ (.int .u32 0)) (Ne.symm hne))
      have HU5 := Lib.hid ((HU.out.trans (But.setCell g (k * 2) W3 (.bool false))).trans (But.setCell g (k * 2 + 1) _ (.int .u32 0)))
      simp only [Option.isSome_none, Option.getD_none] at HA5
      go_wp2_with fail
      go_roundw
      case rel => exact ⟨k + 1, hlt, by go_num, by rw [HWk.out, Bool.or_true], by rw [HE.out]; exact HA5, HB5, HU5⟩
      case measure => simp [intOf]; omega
     | some y =>
      simp only [Option.isSome_some, Option.getD_some] at b0 b1
      have gxy : (x == y) = false := by
       rw [beq_eq_false_iff_ne]; intro e; exact hxb (by rw [e])
      clear hxb
      go_wp2_with fail
      go_quiet (fail)
      generalize hW3 : World.drewN wr _ = W3
      have BD : Below wr.heap.size wr W3 := by rw [← hW3]; exact drewN_b (Below.refl _ _) _
      have HA := Lib.hid (HA.out.below BD)
      have HB := Lib.hid (HB.out.below BD)
      have HU := Lib.hid (HU.out.trans (But.below BD))
      have a0 : W3.cell? ⟨g, k * 2, none⟩ = _ := (BD.cell (p := ⟨g, k * 2, none⟩) hgl).trans a0
      have a1 : W3.cell? ⟨g, k * 2 + 1, none⟩ = _ := (BD.cell (p := ⟨g, k * 2 + 1, none⟩) hgl).trans a1
      have f0 : W3.frozen? ⟨g, k * 2, none⟩ = false := (BD.frozen (p := ⟨g, k * 2, none⟩) hgl).trans f0
      have f1 : W3.frozen? ⟨g, k * 2 + 1, none⟩ = false := (BD.frozen (p := ⟨g, k * 2 + 1, none⟩) hgl).trans f1
      clear hW3 BD b0 b1
      have HA5 := Lib.hid (HA.out.set2 (d := k) (by rw [HML.out]; exact hlt) none)
      have HB5 := Lib.hid ((HB.out.but (But.setCell g (k * 2) W3 (.bool false)) (Ne.symm hne)).but (But.setCell g (k * 2 + 1) _ (.int .u32 0)) (Ne.symm hne))
      have HU5 := Lib.hid ((HU.out.trans (But.setCell g (k * 2) W3 (.bool false))).trans (But.setCell g (k * 2 + 1) _ (.int .u32 0)))
      simp only [Option.isSome_none, Option.getD_none] at HA5
      go_wp2_with fail
      go_roundw
      case rel => exact ⟨k + 1, hlt, by go_num, by rw [HWk.out, Bool.or_true], by rw [HE.out]; exact HA5, HB5, HU5⟩
      case measure => simp [intOf]; omega
  ·obtain rfl : k = a.length := by omega
   go_wp2_with fail
   go_ret
   exact ⟨rfl, by rw [← midC_all]; exact HA.out, HU.out⟩
end Go.Proofs.YtkhfddodmjnecaaDoor

set_option linter.all false
namespace Go.Proofs.YtkhfddodmjnecaaDoor
open Go.ChangeShapes Go.WideShapes Go.ChangeAt Go.RowKit
set_option maxHeartbeats 4000000
set_option maxRecDepth 100000
set_option linter.unusedVariables false

def rowVC (R : Nat) : Option (Nat × Nat) → Value
 | none => .slice none 0 0
 | some x => .slice (some ⟨x.1, 0, none⟩) R x.2
abbrev Tb := List (Option Ro)
abbrev Rs := List (Option (Nat × Nat))
def RowIs (w : World) (B R : Nat) : Option (Nat × Nat) → Option Ro → Prop
 | none, none => True
 | some x, some t => RowQ w x.1 x.2 t ∧ t.length = R ∧ RoOk t ∧ B ≤ x.1
 | _, _ => False
structure TbC (B : Nat) (w : World) (gt ct : Nat) (rs : Rs) (X : Tb) (R : Nat) : Prop where
 len : rs.length = X.length
 tab : w.ownsRow 0 50 1 (.slice (some ⟨gt, 0, none⟩) X.length ct) X.length (rs.map (rowVC R))
 row : ∀ i, i < X.length → RowIs w B R (rs.getD i none) (X.getD i none)
 inj : ∀ i j x y, i ≠ j → rs.getD i none = some x → rs.getD j none = some y → x.1 ≠ y.1
 gB : B ≤ gt
theorem RowQ.lt {w : World} {g c : Nat} {t : Ro} (h : RowQ w g c t) : g < w.heap.size := by
 unfold RowQ at h
 obtain ⟨-, ⟨h2, -⟩ | ⟨g', cap, cur, h2, -, hg, -⟩⟩ := h
 ·simp at h2
 ·simp only [Value.slice.injEq, Option.some.injEq, Addr.mk.injEq, and_true, true_and] at h2
  obtain ⟨rfl, -⟩ := h2
  exact (Array.getElem?_eq_some_iff.1 hg).1
theorem RowIs.lt {w : World} {B R : Nat} {x : Nat × Nat} {o : Option Ro} (h : RowIs w B R (some x) o) : x.1 < w.heap.size := by
 cases o with
 | none => exact h.elim
 | some t => exact h.1.lt
theorem RowQ.ne {w : World} {g c b : Nat} {t : Ro} (h : RowQ w g c t) {cs : Array Value} {ty : TypeId} (hb : w.heap[b]? = some (.cells cs ty)) (hty : ty ≠ 54) : g ≠ b := by
 have h' := h
 unfold RowQ at h
 obtain ⟨-, ⟨h2, -⟩ | ⟨g', cap, cur, h2, -, hg, -⟩⟩ := h
 ·simp at h2
 ·simp only [Value.slice.injEq, Option.some.injEq, Addr.mk.injEq, and_true, true_and] at h2
  obtain ⟨rfl, rfl⟩ := h2
  intro e
  rw [e, hb] at hg
  simp only [Option.some.injEq, Obj.cells.injEq] at hg
  exact hty hg.2.1
section
variable {B gt ct R : Nat} {w w' : World} {rs : Rs} {X : Tb}
theorem TbC.below (h : TbC B w gt ct rs X R) (hb : Below w.heap.size w w') : TbC B w' gt ct rs X R :=
 ⟨h.len, own_below h.tab hb, fun i hi => by
   have := h.row i hi
   revert this
   generalize rs.getD i none = r
   generalize X.getD i none = o
   intro this
   match r, o, this with
   | none, none, _ => exact True.intro
   | some x, some t, ⟨h1, h2, h3, h4⟩ => exact ⟨h1.below hb, h2, h3, h4⟩
   | none, some _, h => exact h.elim
   | some _, none, h => exact h.elim, h.inj, h.gB⟩
theorem TbC.heap (h : TbC B w gt ct rs X R) : ∃ cur, w.heap[gt]? = some (.cells cur 50) := by
 obtain ⟨-, ⟨h2, -⟩ | ⟨g', cap, cur, h2, -, hg, -⟩⟩ := h.tab
 ·simp at h2
 ·simp only [Value.slice.injEq, Option.some.injEq, Addr.mk.injEq, and_true, true_and] at h2
  obtain ⟨rfl, -⟩ := h2
  exact ⟨cur, hg⟩
theorem TbC.lt (h : TbC B w gt ct rs X R) : gt < w.heap.size := by
 obtain ⟨cur, hg⟩ := h.heap
 exact (Array.getElem?_eq_some_iff.1 hg).1
theorem TbC.cell (h : TbC B w gt ct rs X R) {i : Nat} (hi : i < X.length) : w.cell? ⟨gt, i, none⟩ = some (rowVC R (rs.getD i none)) ∧ w.frozen? ⟨gt, i, none⟩ = false := by
 obtain ⟨cur, hg⟩ := h.heap
 refine ⟨(World.ownsRow.cellAt h.tab i (by omega)).trans ?_, frozen_of_heap hg i⟩
 have hl := h.len
 simp [List.getD, List.getElem?_map, List.getElem?_eq_getElem (show i < rs.length by omega)]
theorem TbC.caps (h : TbC B w gt ct rs X R) : X.length ≤ ct ∧ ct ≤ maxLen := by
 obtain ⟨-, ⟨h2, -⟩ | ⟨g', cap, cur, h2, -, hg, hn, hc, -⟩⟩ := h.tab
 ·simp at h2
 ·simp only [Value.slice.injEq, Option.some.injEq, Addr.mk.injEq, and_true, true_and] at h2
  obtain ⟨rfl, rfl⟩ := h2
  exact ⟨hn, hc⟩
/-- a row turns in its place -/
theorem TbC.turn (h : TbC B w gt ct rs X R) {i : Nat} (hi : i < X.length) {x : Nat × Nat} (hx : rs.getD i none = some x) {t' : Ro} (hq : RowQ w' x.1 x.2 t') (hl : t'.length = R) (ho : RoOk t') (hb : But x.1 w w') : TbC B w' gt ct rs (X.set i (some t')) R := by
 have hri := h.row i hi
 rw [hx] at hri
 have hgx : B ≤ x.1 := by
  cases ho : X.getD i none with
  | none => rw [ho] at hri; exact hri.elim
  | some t => rw [ho] at hri; exact hri.2.2.2
 have hxl := hri.lt
 obtain ⟨cur, hg⟩ := h.heap
 have hgt : gt ≠ x.1 := by
  cases ho : X.getD i none with
  | none => rw [ho] at hri; exact hri.elim
  | some t => rw [ho] at hri; exact Ne.symm (hri.1.ne hg (by decide))
 refine ⟨by simpa using h.len, ?_, fun j hj => ?_, h.inj, h.gB⟩
 ·rw [List.length_set]
  exact World.ownsRow.kept h.tab (but_grownK hb) (.inr (by simp only [Value.ownBlock]; intro e; exact hgt (Option.some.inj e)))
 ·rw [List.length_set] at hj
  by_cases e : j = i
  ·subst e
   rw [hx]
   have : (X.set j (some t')).getD j none = some t' := by simp [List.getD, hj]
   rw [this]
   exact ⟨hq, hl, ho, hgx⟩
  ·have e1 : (X.set i (some t')).getD j none = X.getD j none := by simp [List.getD, List.getElem?_set, Ne.symm e]
   rw [e1]
   have hrj := h.row j hj
   have hin := fun y hy => h.inj j i y x e hy hx
   revert hrj hin
   generalize rs.getD j none = r
   generalize X.getD j none = o
   intro hrj hin
   match r, o, hrj with
   | none, none, _ => exact True.intro
   | some y, some t, ⟨h1, h2, h3, h4⟩ => exact ⟨h1.but hb (hin y rfl), h2, h3, h4⟩
   | none, some _, h => exact h.elim
   | some _, none, h => exact h.elim
/-- a row is laid down for the first time -/
theorem TbC.put (h : TbC B w gt ct rs X R) {i : Nat} (hi : i < X.length) {x : Nat × Nat} {t' : Ro} (hq : RowQ w x.1 x.2 t') (hl : t'.length = R) (ho : RoOk t') (hB : B ≤ x.1) (hnew : ∀ j y, rs.getD j none = some y → y.1 ≠ x.1) : TbC B (w.setCell ⟨gt, i, none⟩ (rowVC R (some x))) gt ct (rs.set i (some x)) (X.set i (some t')) R := by
 have hlen := h.len
 obtain ⟨cur, hg⟩ := h.heap
 have keep : ∀ {g c : Nat} {t : Ro}, RowQ w g c t → RowQ (w.setCell ⟨gt, i, none⟩ (rowVC R (some x))) g c t := fun hq => hq.but (But.setCell gt i w _) (hq.ne hg (by decide))
 refine ⟨by simpa using hlen, ?_, fun j hj => ?_, fun a b y z hab hy hz => ?_, h.gB⟩
 ·rw [List.length_set, List.map_set]
  exact (World.ownsRow.stored h.tab i _).1
 ·rw [List.length_set] at hj
  by_cases e : j = i
  ·subst e
   have e1 : (X.set j (some t')).getD j none = some t' := by simp [List.getD, hj]
   have e2 : (rs.set j (some x)).getD j none = some x := by simp [List.getD, hlen, hj]
   rw [e1, e2]
   exact ⟨keep hq, hl, ho, hB⟩
  ·have e1 : (X.set i (some t')).getD j none = X.getD j none := by simp [List.getD, List.getElem?_set, Ne.symm e]
   have e2 : (rs.set i (some x)).getD j none = rs.getD j none := by simp [List.getD, List.getElem?_set, Ne.symm e]
   rw [e1, e2]
   have hrj := h.row j hj
   revert hrj
   generalize rs.getD j none = r
   generalize X.getD j none = o
   intro hrj
   match r, o, hrj with
   | none, none, _ => exact True.intro
   | some y, some t, ⟨h1, h2, h3, h4⟩ => exact ⟨keep h1, h2, h3, h4⟩
   | none, some _, h => exact h.elim
   | some _, none, h => exact h.elim
 ·have key : ∀ j, j ≠ i → (rs.set i (some x)).getD j none = rs.getD j none := fun j e => by simp [List.getD, List.getElem?_set, Ne.symm e]
  have self : (rs.set i (some x)).getD i none = some x := by simp [List.getD, hlen, hi]
  by_cases ea : a = i
  ·by_cases eb : b = i
   ·exact absurd (ea.trans eb.symm) hab
   ·rw [ea, self] at hy
    rw [key b eb] at hz
    cases hy
    exact Ne.symm (hnew b z hz)
  ·rw [key a ea] at hy
   by_cases eb : b = i
   ·rw [eb, self] at hz
    cases hz
    exact hnew a y hy
   ·rw [key b eb] at hz
    exact h.inj a b y z hab hy hz
/-- the rows' blocks are elder than what is made -/
theorem TbC.old (h : TbC B w gt ct rs X R) : ∀ j y, rs.getD j none = some y → y.1 < w.heap.size := fun j y hy => by
 by_cases hj : j < X.length
 ·have := h.row j hj
  rw [hy] at this
  exact this.lt
 ·have hl := h.len
  have : rs.getD j none = none := by simp [List.getD, List.getElem?_eq_none (show rs.length ≤ j by omega)]
  rw [this] at hy; cases hy
end
end Go.Proofs.YtkhfddodmjnecaaDoor
