/-
  Contracts of the functions of flow that mark registers in a list of bools of the call's own.
-/
import Derived.Test.YtnnhobbabcfogaaF9
set_option linter.all false
namespace Go.Proofs.Ytnnhobbabcfogaa
open Go.ChangeShapes Go.WideShapes Go.ChangeAt Go.RowKit
set_option maxHeartbeats 1000000
set_option maxRecDepth 20000

/-- a list of bools in a row of the call's own -/
def OwnB (w : World) (base : Nat) (v : Value) (l : List Bool) : Prop := w.ownsRow base 4 1 v l.length (l.map Value.bool)
theorem OwnB.rd {w : World} {base : Nat} {v : Value} {l : List Bool} (h : OwnB w base v l) : RdB w v l := by
  obtain ⟨h1, ⟨rfl, h2⟩ | ⟨g, cap, cur, rfl, hb, hg, hn, hc, hcs, ht⟩⟩ := h
  · have : l = [] := List.eq_nil_of_length_eq_zero h2
    subst this
    exact ⟨none, 0, rfl, Nat.le_refl _, by simp [maxLen], fun i hi => absurd hi (by simp)⟩
  · refine ⟨_, _, rfl, hn, hc, fun i hi => ⟨g, 0, rfl, ?_⟩⟩
    have h3 : (l.map Value.bool)[i]? = some (.bool (l.getD i false)) := by
      rw [List.getElem?_map, List.getElem?_eq_getElem hi]; simp [List.getD, hi]
    rw [← ht, List.getElem?_take] at h3
    split at h3
    · simp only [Nat.zero_add, Nat.mul_one, Nat.add_zero]
      rw [World.cell?]
      simp only [hg]
      simpa using h3
    · cases h3
theorem OwnB.cellAt {w : World} {B g n c : Nat} {l : List Bool} (h : OwnB w B (.slice (some ⟨g, 0, none⟩) n c) l) : n = l.length ∧ n ≤ c ∧ c ≤ maxLen ∧ B ≤ g ∧ (∀ i, i < n → w.cell? ⟨g, i, none⟩ = some (.bool (l.getD i false))) ∧ (∀ i, w.frozen? ⟨g, i, none⟩ = false) ∧ g < w.heap.size := by
  obtain ⟨ad, cp, h1, h2, h3, h4⟩ := h.rd
  simp only [Value.slice.injEq] at h1
  obtain ⟨rfl, rfl, rfl⟩ := h1
  have hf := World.ownsRow.frozenAt h
  obtain ⟨_, ⟨h5, _⟩ | ⟨g', cap, cur, h5, hb, hh, _⟩⟩ := h
  · simp at h5
  · simp only [Value.slice.injEq, Option.some.injEq, Addr.mk.injEq] at h5
    refine ⟨rfl, h2, h3, by omega, fun i hi => ?_, hf, ?_⟩
    · obtain ⟨b, o, e, hc⟩ := h4 i hi
      simp only [Option.some.injEq, Addr.mk.injEq] at e
      obtain ⟨rfl, rfl, _⟩ := e
      simpa using hc
    · have := (Array.getElem?_eq_some_iff.1 hh).1
      omega
theorem OwnB.set {w : World} {B g n c : Nat} {l : List Bool} (h : OwnB w B (.slice (some ⟨g, 0, none⟩) n c) l) (i : Nat) (x : Bool) : OwnB (w.setCell ⟨g, i, none⟩ (.bool x)) B (.slice (some ⟨g, 0, none⟩) n c) (l.set i x) := by
  obtain ⟨rfl, _⟩ := h.cellAt
  have := (World.ownsRow.stored h i (.bool x)).1
  unfold OwnB
  rw [List.length_set, List.map_set]
  exact this
/-- the world but for one block, and new ones -/
structure But (g : Nat) (w w' : World) : Prop where
  os : w'.os = w.os
  tape : w'.tape = w.tape
  output : w'.output = w.output
  size : w.heap.size ≤ w'.heap.size
  block : ∀ k, k < w.heap.size → k ≠ g → w'.heap[k]? = w.heap[k]?
theorem But.refl (g : Nat) (w : World) : But g w w := ⟨rfl, rfl, rfl, Nat.le_refl _, fun _ _ _ => rfl⟩
theorem But.trans {g : Nat} {a b c : World} (h : But g a b) (k : But g b c) : But g a c :=
  ⟨k.os.trans h.os, k.tape.trans h.tape, k.output.trans h.output, Nat.le_trans h.size k.size, fun i hi hg => (k.block i (Nat.lt_of_lt_of_le hi h.size) hg).trans (h.block i hi hg)⟩
theorem But.below {g : Nat} {w w' : World} (h : Below w.heap.size w w') : But g w w' := ⟨h.os, h.tape, h.output, h.size, fun k hk _ => h.block k hk⟩
theorem But.setCell (g i : Nat) (w : World) (x : Value) : But g w (w.setCell ⟨g, i, none⟩ x) :=
  ⟨rfl, rfl, rfl, by simp [World.setCell], fun k _ hk => Below.heap_setCell w ⟨g, i, none⟩ x k hk⟩
theorem But.toBelow {g B : Nat} {w w' : World} (h : But g w w') (hg : B ≤ g) (hB : B ≤ w.heap.size) : Below B w w' := ⟨h.os, h.tape, h.output, h.size, fun k hk => h.block k (by omega) (by omega)⟩
theorem But.cell {g : Nat} {w w' : World} (h : But g w w') {b o : Nat} (hb : b < w.heap.size) (hg : b ≠ g) : w'.cell? ⟨b, o, none⟩ = w.cell? ⟨b, o, none⟩ := World.cell?_of_block (w := w) (a := ⟨b, o, none⟩) (h.block b hb hg)
/-- what is read, but for the one block -/
def ExtB (g : Nat) (w w' : World) : Prop := ∀ a v, a.block ≠ g → w.cell? a = some v → w'.cell? a = some v
theorem But.ext {g : Nat} {w w' : World} (h : But g w w') : ExtB g w w' := fun a _ hg hv => (World.cell?_of_block (w := w) (h.block a.block (World.block_lt_of_cell? w a hv) hg)).trans hv
theorem OwnB.below {w w' : World} {B : Nat} {v : Value} {l : List Bool} (h : OwnB w B v l) (hb : Below w.heap.size w w') : OwnB w' B v l := by
  obtain ⟨h1, h2 | ⟨g, cap, cur, h3, h4, h5, r⟩⟩ := h
  · exact ⟨h1, .inl h2⟩
  · exact ⟨h1, .inr ⟨g, cap, cur, h3, h4, (hb.block g (Array.getElem?_eq_some_iff.1 h5).1).trans h5, r⟩⟩
theorem OwnB.but {w w' : World} {B g g0 n c : Nat} {l : List Bool} (h : OwnB w B (.slice (some ⟨g0, 0, none⟩) n c) l) (hb : But g w w') (hg : g0 ≠ g) : OwnB w' B (.slice (some ⟨g0, 0, none⟩) n c) l := by
  obtain ⟨h1, h2 | ⟨g', cap, cur, h3, h4, h5, r⟩⟩ := h
  · exact ⟨h1, .inl h2⟩
  · simp only [Value.slice.injEq, Option.some.injEq, Addr.mk.injEq] at h3
    refine ⟨h1, .inr ⟨g', cap, cur, by simp only [h3], h4, (hb.block g' (Array.getElem?_eq_some_iff.1 h5).1 (by omega)).trans h5, r⟩⟩

/-- marked, if there is such a one -/
def setB (l : List Bool) (r : Int) (is : Bool) : List Bool := if 0 ≤ r ∧ r < l.length then l.set r.toNat is else l
theorem setB_len (l : List Bool) (r : Int) (is : Bool) : (setB l r is).length = l.length := by unfold setB; split <;> simp
/-- a list of bools at a block of its own -/
def RowB (w : World) (g n c : Nat) (l : List Bool) : Prop := OwnB w 0 (.slice (some ⟨g, 0, none⟩) n c) l
theorem RowB.below {w w' : World} {g n c : Nat} {l : List Bool} (h : RowB w g n c l) (hb : Below w.heap.size w w') : RowB w' g n c l := OwnB.below h hb
theorem mark_c (g n c : Nat) (l : List Bool) (r : Int) (is : Bool) (w : World) (h : RowB w g n c l) :
    Calls Try.prog 121 #[.slice (some ⟨g, 0, none⟩) n c, .int .i64 r, .bool is] w fun e w' => e = .returned (.tuple #[]) ∧ RowB w' g n c (setB l r is) ∧ But g w w' := by
  obtain ⟨rfl, hnc, hcm, -, hcells, hfr, hlt⟩ := h.cellAt
  unfold maxLen at hcm
  by_cases h0 : 0 ≤ r
  · by_cases h1 : r < (l.length : Int)
    · obtain ⟨k, rfl⟩ := Int.eq_ofNat_of_zero_le h0
      have hk : k < l.length := by omega
      have H : Hid (setB l k is = l.set k is) := by show _ = _; unfold setB; rw [if_pos ⟨h0, h1⟩]; rfl
      have hck := hcells k hk
      generalize l.getD k false = y at hck
      have hfk := hfr k
      have HR := Lib.hid (OwnB.set h k is)
      clear hcells hfr h
      go_enter Try.func121, Try.ntmps121
      go_wp2
      go_end0
      exact ⟨rfl, by rw [H.out]; exact HR.out, But.setCell _ _ _ _⟩
    · have h1' : decide (r < (l.length : Int)) = false := by simpa using h1
      have H : Hid (setB l r is = l) := by show _ = _; unfold setB; rw [if_neg (by omega)]
      have HR := Lib.hid h
      clear hcells hfr h
      go_enter Try.func121, Try.ntmps121
      go_wp2
      go_end0
      exact ⟨rfl, by rw [H.out]; exact HR.out, But.refl _ _⟩
  · have h0' : decide (0 ≤ r) = false := by simpa using h0
    have H : Hid (setB l r is = l) := by show _ = _; unfold setB; rw [if_neg (by omega)]
    have HR := Lib.hid h
    clear hcells hfr h
    go_enter Try.func121, Try.ntmps121
    go_wp2
    go_end0
    exact ⟨rfl, by rw [H.out]; exact HR.out, But.refl _ _⟩
/-- what a block's end reads, marked -/
def endedB (l : List Bool) (b : Bk) : List Bool := if b.fin = 2 ∨ b.fin = 3 then setB l b.a true else l
theorem ended_c (g n c : Nat) (l : List Bool) (b : Bk) (V : Value) (w : World) (h : RowB w g n c l) (hv : BkV w V b) :
    Calls Try.prog 86 #[.slice (some ⟨g, 0, none⟩) n c, V] w fun e w' => e = .returned (.tuple #[]) ∧ RowB w' g n c (endedB l b) ∧ But g w w' := by
  obtain ⟨vi, rfl, -⟩ := hv
  have hg : g < w.heap.size := h.cellAt.2.2.2.2.2.2
  have HB : Hid (∀ o, RowB (w.alloc o) g n c l) := fun o => h.below (below_alloc w o)
  have EM : Hid (∀ o, Calls Try.prog 121 #[.slice (some ⟨g, 0, none⟩) n c, .int .i64 b.a, .bool true] (w.alloc o) fun e w' => e = .returned (.tuple #[]) ∧ RowB w' g n c (setB l b.a true) ∧ But g (w.alloc o) w') := fun o => mark_c g n c l b.a true _ (HB o)
  have E1 : b.fin = 2 ∨ b.fin = 3 → endedB l b = setB l b.a true := fun h => by unfold endedB; rw [if_pos h]
  have E2 : ¬ (b.fin = 2 ∨ b.fin = 3) → endedB l b = l := fun h => by unfold endedB; rw [if_neg h]
  by_cases hf : b.fin = 2 ∨ b.fin = 3
  · have H := Lib.hid (E1 hf)
    clear E1 E2 h
    rcases hf with hf | hf
    · go_enter Try.func86, Try.ntmps86
      go_wp2_with (go_at_call 121; refine (EM.out _).mono ?_; rintro e w1 ⟨rfl, hr, hb⟩; have HR := Lib.hid hr; clear hr)
      go_end0
      exact ⟨rfl, by rw [H.out]; exact HR.out, (But.below (below_alloc w _)).trans hb⟩
    · have hf2 : (b.fin == 2) = false := beq_eq_false_iff_ne.2 (by omega)
      go_enter Try.func86, Try.ntmps86
      go_wp2_with (go_at_call 121; refine (EM.out _).mono ?_; rintro e w1 ⟨rfl, hr, hb⟩; have HR := Lib.hid hr; clear hr)
      go_end0
      exact ⟨rfl, by rw [H.out]; exact HR.out, (But.below (below_alloc w _)).trans hb⟩
  · have H := Lib.hid (E2 hf)
    have hf2 : (b.fin == 2) = false := beq_eq_false_iff_ne.2 (by omega)
    have hf3 : (b.fin == 3) = false := beq_eq_false_iff_ne.2 (by omega)
    clear E1 E2 h hf
    go_enter Try.func86, Try.ntmps86
    go_wp2
    go_end0
    exact ⟨rfl, by rw [H.out]; exact HB.out _, But.below (below_alloc w _)⟩
end Go.Proofs.Ytnnhobbabcfogaa
