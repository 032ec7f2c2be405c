/-
  Items of assembly as plain data, and the contracts of the small functions: the constructors, the contrary branch, which items may be.
  Conditions: the numbers of an item lie within 64 bits.
-/
import Derived.Test.YtedihiodmgnlpaaI12
import Derived.Test.YtedihiodmgnlpaaM
import Derived.Test.YtedihiodmgnlpaaRows
import Derived.WalkKit
import Derived.ProofKit
import Derived.Outline
import Derived.Lib.Hide
import Derived.Laws.StructEq
set_option linter.all false
namespace Go.Proofs.Ytedihiodmgnlpaa
open Go.ChangeShapes Go.WideShapes Go.ChangeAt Go.RowKit
set_option maxHeartbeats 1000000
set_option linter.unusedVariables false
set_option maxRecDepth 20000

/-- an instruction -/
structure IN where
  op : Int
  rd : Int
  rs1 : Int
  rs2 : Int
  imm : Int
deriving DecidableEq, Inhabited
/-- an item -/
structure It where
  kind : Int
  i : IN
  label : Int
deriving DecidableEq, Inhabited
def IN.v (i : IN) : Value := .agg #[.int .i64 i.op, .int .i64 i.rd, .int .i64 i.rs1, .int .i64 i.rs2, .int .i64 i.imm]
def It.v (x : It) : Value := .agg #[.int .i64 x.kind, .int .i64 x.i.op, .int .i64 x.i.rd, .int .i64 x.i.rs1, .int .i64 x.i.rs2, .int .i64 x.i.imm, .int .i64 x.label]
def IN.ok (i : IN) : Bool := rightB i.op i.rd i.rs1 i.rs2 i.imm
def contrF (op : Int) : Int := if op = 5 ∨ op = 7 ∨ op = 9 then op + 1 else if op = 6 ∨ op = 8 ∨ op = 10 then op - 1 else 0
def labF (n : Int) : Bool := decide (0 ≤ n) && decide (n < 4096)
def itemF (x : It) : Bool :=
  if x.kind = 1 then x.i.ok && x.label == 0
  else if x.kind = 2 then x.i.op == 0 && x.i.rd == 0 && x.i.rs1 == 0 && x.i.rs2 == 0 && x.i.imm == 0 && labF x.label
  else if x.kind = 3 then x.i.ok && contrF x.i.op != 0 && x.i.imm == 0 && labF x.label
  else if x.kind = 4 then x.i.ok && x.i.op == 3 && x.i.imm == 0 && labF x.label
  else if x.kind = 5 then decide (0 ≤ x.i.rd) && decide (x.i.rd < 32) && x.i.op == 0 && x.i.rs1 == 0 && x.i.rs2 == 0 && decide (-2147483648 ≤ x.i.imm) && decide (x.i.imm < 4294967296) && x.label == 0
  else false
theorem retB {a b : Bool} (h : a = b) : Ending.returned (.bool a) = .returned (.bool b) := by rw [h]
theorem retI {k : IntKind} {a b : Int} (h : a = b) : Ending.returned (.int k a) = .returned (.int k b) := by rw [h]

theorem contr_c (op : Int) (w : World) :
    Calls Try.prog 20 #[.int .i64 op] w fun e w' => e = .returned (.int .i64 (contrF op)) ∧ w = w' := by
  by_cases h : 5 ≤ op ∧ op ≤ 10
  · have hc : Hid (op = 5 ∨ op = 6 ∨ op = 7 ∨ op = 8 ∨ op = 9 ∨ op = 10) := show _ ∨ _ by omega
    clear h
    rcases hc with rfl | rfl | rfl | rfl | rfl | rfl
    all_goals
      go_enter Try.func20, Try.ntmps20
      go_wp2
      go_ret
      exact ⟨retI (by decide), rfl⟩
  · have h5 : (op == 5) = false := beq_eq_false_iff_ne.2 (by omega)
    have h6 : (op == 6) = false := beq_eq_false_iff_ne.2 (by omega)
    have h7 : (op == 7) = false := beq_eq_false_iff_ne.2 (by omega)
    have h8 : (op == 8) = false := beq_eq_false_iff_ne.2 (by omega)
    have h9 : (op == 9) = false := beq_eq_false_iff_ne.2 (by omega)
    have h10 : (op == 10) = false := beq_eq_false_iff_ne.2 (by omega)
    have H : Hid (contrF op = 0) := show _ = _ by unfold contrF; rw [if_neg (by omega), if_neg (by omega)]
    clear h
    go_enter Try.func20, Try.ntmps20
    go_wp2
    go_ret
    exact ⟨retI H.out.symm, rfl⟩
theorem rbranch_c (op : Int) (w : World) :
    Calls Try.prog 51 #[.int .i64 op] w fun e w' => e = .returned (.bool (decide (5 ≤ op) && decide (op ≤ 10))) ∧ w = w' := by
  go_enter Try.func51, Try.ntmps51
  go_wp2
  all_goals
    go_ret
    exact ⟨retB (by first | (simp [*]; done) | (simp [*]; omega)), rfl⟩
theorem ainst_c (a b c d e : Int) (w : World) :
    Calls Try.prog 17 #[.int .i64 a, .int .i64 b, .int .i64 c, .int .i64 d, .int .i64 e] w fun r w' => r = .returned (It.v ⟨1, ⟨a, b, c, d, e⟩, 0⟩) ∧ Below w.heap.size w w' := by
  go_enter Try.func17, Try.ntmps17
  go_wp2
  exact bodyPost_ret (v := It.v ⟨1, ⟨a, b, c, d, e⟩, 0⟩) (by simp [results, Try.results17, go_sem, It.v]) rfl ⟨rfl, Below.alloc (Below.refl _ _) (Nat.le_refl _) _⟩
theorem aconst_c (a n : Int) (w : World) (h : 0 ≤ n) (h' : n < 4294967296) :
    Calls Try.prog 22 #[.int .i64 a, .int .u32 n] w fun r w' => r = .returned (It.v ⟨5, ⟨0, a, 0, 0, n⟩, 0⟩) ∧ Below w.heap.size w w' := by
  go_enter Try.func22, Try.ntmps22
  go_wp2
  exact bodyPost_ret (v := It.v ⟨5, ⟨0, a, 0, 0, n⟩, 0⟩) (by simp [results, Try.results22, go_sem, It.v]) rfl ⟨rfl, Below.alloc (Below.refl _ _) (Nat.le_refl _) _⟩
theorem alabel_c (a : Int) (w : World) :
    Calls Try.prog 23 #[.int .i64 a] w fun r w' => r = .returned (It.v ⟨2, ⟨0, 0, 0, 0, 0⟩, a⟩) ∧ Below w.heap.size w w' := by
  go_enter Try.func23, Try.ntmps23
  go_wp2
  exact bodyPost_ret (v := It.v ⟨2, ⟨0, 0, 0, 0, 0⟩, a⟩) (by simp [results, Try.results23, go_sem, It.v]) rfl ⟨rfl, Below.alloc (Below.refl _ _) (Nat.le_refl _) _⟩
theorem abranch_c (a b c d : Int) (w : World) :
    Calls Try.prog 24 #[.int .i64 a, .int .i64 b, .int .i64 c, .int .i64 d] w fun r w' => r = .returned (It.v ⟨3, ⟨a, 0, b, c, 0⟩, d⟩) ∧ Below w.heap.size w w' := by
  go_enter Try.func24, Try.ntmps24
  go_wp2
  exact bodyPost_ret (v := It.v ⟨3, ⟨a, 0, b, c, 0⟩, d⟩) (by simp [results, Try.results24, go_sem, It.v]) rfl ⟨rfl, Below.alloc (Below.refl _ _) (Nat.le_refl _) _⟩
theorem ajump_c (a b : Int) (w : World) :
    Calls Try.prog 25 #[.int .i64 a, .int .i64 b] w fun r w' => r = .returned (It.v ⟨4, ⟨3, a, 0, 0, 0⟩, b⟩) ∧ Below w.heap.size w w' := by
  go_enter Try.func25, Try.ntmps25
  go_wp2
  exact bodyPost_ret (v := It.v ⟨4, ⟨3, a, 0, 0, 0⟩, b⟩) (by simp [results, Try.results25, go_sem, It.v]) rfl ⟨rfl, Below.alloc (Below.refl _ _) (Nat.le_refl _) _⟩
theorem rcontr_c (op : Int) (w : World) :
    Calls Try.prog 21 #[.int .i64 op] w fun e w' => e = .returned (.int .i64 (contrF op)) ∧ w = w' := by
  by_cases h : 5 ≤ op ∧ op ≤ 10
  · obtain ⟨h5, h10⟩ := h
    have hb : Hid (∀ w, Calls Try.prog 51 #[.int .i64 op] w fun e w' => e = .returned (.bool true) ∧ w = w') := fun w => (rbranch_c op w).mono fun e w' ⟨h, k⟩ => ⟨h.trans (by simp [h5, h10]), k⟩
    have hc : Hid (op = 5 ∨ op = 6 ∨ op = 7 ∨ op = 8 ∨ op = 9 ∨ op = 10) := show _ ∨ _ by omega
    rcases hc with rfl | rfl | rfl | rfl | rfl | rfl
    all_goals
      go_enter Try.func21, Try.ntmps21
      go_wp2_with (go_at_call 51; refine (hb.out _).mono ?_; rintro e w' ⟨rfl, rfl⟩)
      go_ret
      exact ⟨retI (by decide), rfl⟩
  · have hb : Hid (∀ w, Calls Try.prog 51 #[.int .i64 op] w fun e w' => e = .returned (.bool false) ∧ w = w') := fun w => (rbranch_c op w).mono fun e w' ⟨h', k⟩ => ⟨h'.trans (retB (by rw [← Bool.decide_and]; exact decide_eq_false h)), k⟩
    go_enter Try.func21, Try.ntmps21
    go_wp2_with (go_at_call 51; refine (hb.out _).mono ?_; rintro e w' ⟨rfl, rfl⟩)
    go_ret
    exact ⟨retI (by unfold contrF; rw [if_neg (by omega), if_neg (by omega)]), rfl⟩
theorem aright_c (x : It) (w : World) :
    Calls Try.prog 18 #[x.v] w fun e w' => e = .returned (.bool (itemF x)) ∧ Below w.heap.size w w' := by
  obtain ⟨kind, ⟨op, rd, rs1, rs2, imm⟩, label⟩ := x
  show Calls _ _ #[.agg #[.int .i64 kind, .int .i64 op, .int .i64 rd, .int .i64 rs1, .int .i64 rs2, .int .i64 imm, .int .i64 label]] _ _
  go_enter Try.func18, Try.ntmps18
  go_wp2_with (first | (go_at_call 49; refine (iright_c _ _ _ _ _ _).mono ?_; rintro e w1 ⟨rfl, hb1⟩; obtain ⟨hc1, hf1⟩ := bcell hb1; have hz1 := hb1.size; (try simp at hz1); have hy1 : w.heap.size < w1.heap.size := by omega) | (go_at_call 20; refine (contr_c _ _).mono ?_; rintro e w2 ⟨rfl, rfl⟩))
  all_goals
    go_ret
    refine ⟨retB ?_, ?_⟩
    rotate_left
    · first | exact Below.alloc (Below.refl _ _) (Nat.le_refl _) _ | exact Below.alloc (Below.alloc (Below.refl _ _) (Nat.le_refl _) _) (by simp) _ | exact (Below.alloc (Below.refl _ _) (Nat.le_refl _) _).trans (hb1.mono (by simp))
    · simp only [itemF, IN.ok]
      (try clear hb1 hc1 hf1 hz1 hy1)
      simp only [beq_iff_eq, beq_eq_false_iff_ne, ne_eq] at *
      first | (simp_all [labF]; done) | (simp_all [labF]; omega)
end Go.Proofs.Ytedihiodmgnlpaa
