/-
  Instructions and items in memory; the contracts of consts and of the document's Number and Right.
  Conditions: numbers lie within 64 bits, words between 0 and 2^32 - 1.
-/
import Derived.Test.YtedihiodmgnlpaaA1
set_option linter.all false
namespace Go.Proofs.Ytedihiodmgnlpaa
open Go.ChangeShapes Go.WideShapes Go.ChangeAt Go.RowKit
set_option maxHeartbeats 1000000
set_option linter.unusedVariables false
set_option maxRecDepth 20000

/-- an instruction's cells -/
structure InsC (c : Nat → Option Value) (i : IN) : Prop where
  op : c 0 = some (.int .i64 i.op)
  rd : c 1 = some (.int .i64 i.rd)
  rs1 : c 2 = some (.int .i64 i.rs1)
  rs2 : c 3 = some (.int .i64 i.rs2)
  imm : c 4 = some (.int .i64 i.imm)
theorem InsC.sub {c c' : Nat → Option Value} {i : IN} (h : InsC c i) (hs : Sub c c') : InsC c' i := ⟨hs _ _ h.op, hs _ _ h.rd, hs _ _ h.rs1, hs _ _ h.rs2, hs _ _ h.imm⟩
/-- a slice of instructions -/
def RdN (w : World) (v : Value) (l : List IN) : Prop := Rows' w v 5 l.length fun k c => InsC c (l.getD k default)
theorem RdN.ext {w w' : World} {v : Value} {l : List IN} (h : RdN w v l) (he : Ext w w') : RdN w' v l := Rows'.ext h he fun _ _ _ hs h => h.sub hs
theorem RdN.nil (w : World) : RdN w (.slice none 0 0) [] := ⟨none, 0, rfl, Nat.le_refl _, by simp [maxLen], fun i hi => absurd hi (Nat.not_lt_zero i)⟩
theorem RdN.mk1 {w : World} {b : Nat} {t : TypeId} {fr : Nat × Nat} (i : IN) (h : w.heap[b]? = some (.cells #[.int .i64 i.op, .int .i64 i.rd, .int .i64 i.rs1, .int .i64 i.rs2, .int .i64 i.imm] t fr)) : RdN w (.slice (some ⟨b, 0, none⟩) 1 1) [i] := by
  refine ⟨_, _, rfl, Nat.le_refl _, by simp [maxLen], fun k hk => ?_⟩
  obtain rfl : k = 0 := by simpa using hk
  exact ⟨b, 0, rfl, cell_of_heap h 0, cell_of_heap h 1, cell_of_heap h 2, cell_of_heap h 3, cell_of_heap h 4⟩
theorem RdN.mk2 {w : World} {b : Nat} {t : TypeId} {fr : Nat × Nat} (i j : IN) (h : w.heap[b]? = some (.cells #[.int .i64 i.op, .int .i64 i.rd, .int .i64 i.rs1, .int .i64 i.rs2, .int .i64 i.imm, .int .i64 j.op, .int .i64 j.rd, .int .i64 j.rs1, .int .i64 j.rs2, .int .i64 j.imm] t fr)) : RdN w (.slice (some ⟨b, 0, none⟩) 2 2) [i, j] := by
  refine ⟨_, _, rfl, Nat.le_refl _, by simp [maxLen], fun k hk => ?_⟩
  have : k < 2 := hk
  match k with
  | 0 => exact ⟨b, 0, rfl, cell_of_heap h 0, cell_of_heap h 1, cell_of_heap h 2, cell_of_heap h 3, cell_of_heap h 4⟩
  | 1 => exact ⟨b, 0, rfl, cell_of_heap h 5, cell_of_heap h 6, cell_of_heap h 7, cell_of_heap h 8, cell_of_heap h 9⟩
  | k + 2 => omega

theorem heap_new (w : World) (o : Obj) (g : Nat) (hg : g = w.heap.size) : (w.alloc o).heap[g]? = some o := by subst hg; exact heap_alloc_new w o
theorem RdN.one {w : World} {g : Nat} {t : TypeId} (i : IN) (hg : g = w.heap.size) : RdN (w.alloc (.cells #[.int .i64 i.op, .int .i64 i.rd, .int .i64 i.rs1, .int .i64 i.rs2, .int .i64 i.imm] t)) (.slice (some ⟨g, 0, none⟩) 1 1) [i] := RdN.mk1 i (heap_new w _ g hg)
theorem RdN.two {w : World} {g : Nat} {t : TypeId} (i j : IN) (hg : g = w.heap.size) : RdN (w.alloc (.cells #[.int .i64 i.op, .int .i64 i.rd, .int .i64 i.rs1, .int .i64 i.rs2, .int .i64 i.imm, .int .i64 j.op, .int .i64 j.rd, .int .i64 j.rs1, .int .i64 j.rs2, .int .i64 j.imm] t)) (.slice (some ⟨g, 0, none⟩) 2 2) [i, j] := RdN.mk2 i j (heap_new w _ g hg)
theorem below_a1 (w : World) (o : Obj) : Below w.heap.size w (w.alloc o) := Below.alloc (Below.refl _ _) (Nat.le_refl _) o
theorem below_a2 (w : World) (o p : Obj) : Below w.heap.size w ((w.alloc o).alloc p) := Below.alloc (below_a1 w o) (by simp) p
theorem below_a3 (w : World) (o p q : Obj) : Below w.heap.size w (((w.alloc o).alloc p).alloc q) := Below.alloc (below_a2 w o p) (by simp; omega) q
theorem wr_sg (x : Int) (h : 0 ≤ x) (h' : x < 4294967296) : wrap64 (wrap32 x) = sg x := by
  rw [wrap32_sg x h h']
  have := sg_bd x h h'
  exact wrap64_in _ (by omega) (by omega)

/-- a slice in a block of the call's own -/
def FrV (w : World) (v : Value) : Prop := ∀ b o n c, v = .slice (some ⟨b, o, none⟩) n c → w.heap.size ≤ b
theorem FrV.nil (w : World) : FrV w (.slice none 0 0) := fun b o n c h => by cases h
theorem FrV.mk {w : World} {b o n c : Nat} (h : w.heap.size ≤ b) : FrV w (.slice (some ⟨b, o, none⟩) n c) := fun b' o' n' c' e => by cases e; exact h
def constL (rd n : Int) : List IN :=
  if (n - signX n 12) % 4294967296 = 0 then [⟨19, rd, 0, 0, sg (signX n 12)⟩]
  else if signX n 12 = 0 then [⟨1, rd, 0, 0, sg ((n - signX n 12) % 4294967296)⟩]
  else [⟨1, rd, 0, 0, sg ((n - signX n 12) % 4294967296)⟩, ⟨19, rd, rd, 0, sg (signX n 12)⟩]
theorem consts_c (rd n : Int) (w : World) (h : 0 ≤ n) (h' : n < 4294967296) :
    Calls Try.prog 81 #[.int .i64 rd, .int .u32 n] w fun e w' => ∃ v, e = .returned v ∧ RdN w' v (constL rd n) ∧ FrV w v ∧ Below w.heap.size w w' := by
  have hs := sign_bd n 12 h h'
  obtain ⟨x, hx⟩ : ∃ x, x = signX n 12 := ⟨_, rfl⟩
  obtain ⟨y, hy⟩ : ∃ y, y = (n - signX n 12) % 4294967296 := ⟨_, rfl⟩
  have P : Hid (∀ w, Calls Try.prog 121 #[.int .u32 n] w fun e w' => e = .returned (.tuple #[.int .u32 y, .int .u32 x]) ∧ w = w') := by
    rw [hx, hy]; exact fun w => parts_c n w h h'
  have HC : Hid (constL rd n = if y = 0 then [⟨19, rd, 0, 0, sg x⟩] else if x = 0 then [⟨1, rd, 0, 0, sg y⟩] else [⟨1, rd, 0, 0, sg y⟩, ⟨19, rd, rd, 0, sg x⟩]) := by rw [hx, hy]; rfl
  have hx0 : 0 ≤ x ∧ x < 4294967296 := by rw [hx]; exact hs
  have hy0 : 0 ≤ y ∧ y < 4294967296 := by rw [hy]; omega
  clear hx hy hs h h'
  obtain ⟨hx1, hx2⟩ := hx0
  obtain ⟨hy1, hy2⟩ := hy0
  have EX := Lib.hid (wr_sg x hx1 hx2)
  have EY := Lib.hid (wr_sg y hy1 hy2)
  by_cases h0 : y = 0
  · rw [if_pos h0] at HC
    subst h0
    go_enter Try.func81, Try.ntmps81
    go_wp2_with (go_at_call 121; refine (P.out _).mono ?_; rintro e w1 ⟨rfl, rfl⟩)
    go_ret
    rw [EX.out]
    refine ⟨_, rfl, ?_, FrV.mk (by omega), below_a3 _ _ _ _⟩
    rw [HC.out]
    exact RdN.one ⟨19, rd, 0, 0, sg x⟩ (by simp)
  · rw [if_neg h0] at HC
    have hy : (y == 0) = false := beq_eq_false_iff_ne.2 h0
    clear h0
    by_cases h0 : x = 0
    · rw [if_pos h0] at HC
      subst h0
      go_enter Try.func81, Try.ntmps81
      go_wp2_with (go_at_call 121; refine (P.out _).mono ?_; rintro e w1 ⟨rfl, rfl⟩)
      go_ret
      rw [EY.out]
      refine ⟨_, rfl, ?_, FrV.mk (by omega), below_a3 _ _ _ _⟩
      rw [HC.out]
      exact RdN.one ⟨1, rd, 0, 0, sg y⟩ (by simp)
    · rw [if_neg h0] at HC
      have hx : (x == 0) = false := beq_eq_false_iff_ne.2 h0
      clear h0
      go_enter Try.func81, Try.ntmps81
      go_wp2_with (go_at_call 121; refine (P.out _).mono ?_; rintro e w1 ⟨rfl, rfl⟩)
      go_ret
      rw [EX.out, EY.out]
      refine ⟨_, rfl, ?_, FrV.mk (by omega), below_a3 _ _ _ _⟩
      rw [HC.out]
      exact RdN.two ⟨1, rd, 0, 0, sg y⟩ ⟨19, rd, rd, 0, sg x⟩ (by simp)
end Go.Proofs.Ytedihiodmgnlpaa
