/-
  The walks of the statements of inst: encoding, decoding, and that each undoes the other.
  Conditions: the numbers of an instruction lie within 64 bits, words between 0 and 2^32 - 1.
-/
import Derived.Test.YtedihiodmgnlpaaI11
set_option linter.all false
namespace Go.Proofs.Ytedihiodmgnlpaa
open Go.ChangeShapes Go.WideShapes Go.ChangeAt Go.RowKit
set_option maxHeartbeats 1000000
set_option linter.unusedVariables false
set_option maxRecDepth 100000
attribute [local go_sem] alloc_drewN setCell_drewN

theorem dec_hit (k : Nat) (h1 : 1 ≤ k) (hk : k < 46) (a : Int) (h : 0 ≤ a) (h' : a < 4294967296) (hf : fitsP k a) (w : World) :
    Calls Try.prog 26 #[.int .u32 a] w fun e w' => e = .returned (.tuple #[.agg #[.int .i64 (k : Int), .int .i64 (rdW k a), .int .i64 (rs1W k a), .int .i64 (rs2W k a), .int .i64 (immF (fm k) a)], .int .i64 0]) ∧ Below w.heap.size w w' := by
  refine (decode_c a w h h').mono fun e w' ⟨hp, hb⟩ => ⟨?_, hb⟩
  rcases hp with ⟨j, j1, j2, j3, j4⟩ | ⟨hn, _⟩
  · obtain rfl := fits_once j k j1 j2 h1 hk a j3 hf
    exact j4
  · exact absurd hf (hn k h1 hk)
theorem dec_miss (a : Int) (h : 0 ≤ a) (h' : a < 4294967296) (hf : ∀ k : Nat, 1 ≤ k → k < 46 → ¬ fitsP k a) (w : World) :
    Calls Try.prog 26 #[.int .u32 a] w fun e w' => e = .returned (.tuple #[.agg #[.int .i64 0, .int .i64 0, .int .i64 0, .int .i64 0, .int .i64 0], .int .i64 3]) ∧ Below w.heap.size w w' := by
  refine (decode_c a w h h').mono fun e w' ⟨hp, hb⟩ => ⟨?_, hb⟩
  rcases hp with ⟨j, j1, j2, j3, j4⟩ | ⟨_, hn⟩
  · exact absurd j3 (hf j j1 j2)
  · exact hn
theorem dec_or (a : Int) : (∃ k : Nat, 1 ≤ k ∧ k < 46 ∧ fitsP k a) ∨ (∀ k : Nat, 1 ≤ k → k < 46 → ¬ fitsP k a) := by
  by_cases h : ∃ k : Nat, 1 ≤ k ∧ k < 46 ∧ fitsP k a
  · exact .inl h
  · exact .inr fun k h1 h2 h3 => h ⟨k, h1, h2, h3⟩
end Go.Proofs.Ytedihiodmgnlpaa
