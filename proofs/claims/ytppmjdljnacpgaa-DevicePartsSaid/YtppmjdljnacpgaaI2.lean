/-
  Contracts of the functions of inst that only look: the table, an instruction's shape, its name and its form.
-/
import Derived.Test.YtppmjdljnacpgaaW2
import Derived.Test.YtppmjdljnacpgaaI1
import Derived.Test.YtppmjdljnacpgaaK
set_option linter.all false
namespace Go.Proofs.Ytppmjdljnacpgaa
open Go.ChangeShapes Go.WideShapes Go.ChangeAt Go.RowKit
set_option maxHeartbeats 400000
set_option linter.unusedVariables false
set_option maxRecDepth 100000

theorem sizeT65 : (Try.prog.info? 65).map (·.size) = some tbl.size := by kernel_rfl
def zeroT : Array Value := (Array.replicate 46 (#[.string ⟨#[]⟩, .int .u8 0, .int .u32 0, .int .u32 0, .int .u32 0] : Array Value)).flatten
theorem tbl_one : tbl.all (·.oneCell') = true := by kernel_rfl
theorem setRow_alloc (w : World) (old cs : Array Value) (t : TypeId) (fr : Nat × Nat) : (w.alloc (.cells old t fr)).setRow w.heap.size cs = w.alloc (.cells cs t fr) := by
  unfold World.setRow World.alloc
  congr 1
  apply Array.ext_getElem?
  intro k
  rw [Array.getElem?_modify]
  simp only [Array.getElem?_push]
  split
  · rename_i h; subst h; simp
  · rename_i h; rw [if_neg (fun e => h e.symm), if_neg (fun e => h e.symm)]
theorem table_c (w : World) :
    Calls Try.prog 36 #[] w fun e w' => e = .returned (.agg tbl) ∧ w.alloc (.cells tbl 65) = w' := by
  refine calls_of_wp Try.func36 rfl ?_
  refine wp_seq ?_
  refine wp_region_list ?_
  refine wpList_runs 1 { tmps := #[.pointer (some ⟨w.heap.size, 0, none⟩), undef, undef, undef, undef, undef, undef, undef, undef, undef, undef, undef, undef, undef, undef, undef, undef, undef, undef, undef, undef, undef, undef, undef, undef, undef, undef, undef, undef, undef, undef, undef, undef, undef, undef, undef, undef, undef, undef, undef, undef, undef, undef, undef, undef, undef, undef, undef], defers := [] } (w.alloc (.cells zeroT 65)) (by kernel_rfl) ?_
  show Code.wp _ _ _ _ _
  refine wp_seq ?_
  refine wp_region_list ?_
  refine wpList_runs 47 { tmps := #[.pointer (some ⟨w.heap.size, 0, none⟩), .agg (shapeA 0), .agg (shapeA 1), .agg (shapeA 2), .agg (shapeA 3), .agg (shapeA 4), .agg (shapeA 5), .agg (shapeA 6), .agg (shapeA 7), .agg (shapeA 8), .agg (shapeA 9), .agg (shapeA 10), .agg (shapeA 11), .agg (shapeA 12), .agg (shapeA 13), .agg (shapeA 14), .agg (shapeA 15), .agg (shapeA 16), .agg (shapeA 17), .agg (shapeA 18), .agg (shapeA 19), .agg (shapeA 20), .agg (shapeA 21), .agg (shapeA 22), .agg (shapeA 23), .agg (shapeA 24), .agg (shapeA 25), .agg (shapeA 26), .agg (shapeA 27), .agg (shapeA 28), .agg (shapeA 29), .agg (shapeA 30), .agg (shapeA 31), .agg (shapeA 32), .agg (shapeA 33), .agg (shapeA 34), .agg (shapeA 35), .agg (shapeA 36), .agg (shapeA 37), .agg (shapeA 38), .agg (shapeA 39), .agg (shapeA 40), .agg (shapeA 41), .agg (shapeA 42), .agg (shapeA 43), .agg (shapeA 44), .agg (shapeA 45), .agg tbl], defers := [] } (w.alloc (.cells zeroT 65)) (by kernel_rfl) ?_
  refine wpList_store_row rfl 65 _ _ rfl w.heap.size tbl rfl rfl 65 zeroT (heap_alloc_new w _) sizeT65 (by kernel_rfl) tbl_one ?_
  show Code.wp _ _ _ _ _
  refine wp_ret ?_
  refine ⟨rfl, .agg tbl, ?_, rfl, (setRow_alloc _ _ _ _ _).symm⟩
  exact results_cell_row rfl _ _ w.heap.size 65 tbl (0, 0) _ rfl (setRow_heap _ _ _ _ _ _ (heap_alloc_new w _)) Try.underlying65 rfl sizeT65

def ix (op : Int) : Nat := if 0 ≤ op ∧ op < 46 then op.toNat else 0
theorem index_tbl (k : Nat) (hk : k < 46) (w : World) : (Instr.index 65 (.agg tbl) (.int .i64 (k : Int))).run Try.prog w = .ok (.agg #[.string (nmB k), .int .u8 (fm k), .int .u32 (cd k), .int .u32 (th k), .int .u32 (sv k)]) w := by
  have : k = 0 ∨ k = 1 ∨ k = 2 ∨ k = 3 ∨ k = 4 ∨ k = 5 ∨ k = 6 ∨ k = 7 ∨ k = 8 ∨ k = 9 ∨ k = 10 ∨ k = 11 ∨ k = 12 ∨ k = 13 ∨ k = 14 ∨ k = 15 ∨ k = 16 ∨ k = 17 ∨ k = 18 ∨ k = 19 ∨ k = 20 ∨ k = 21 ∨ k = 22 ∨ k = 23 ∨ k = 24 ∨ k = 25 ∨ k = 26 ∨ k = 27 ∨ k = 28 ∨ k = 29 ∨ k = 30 ∨ k = 31 ∨ k = 32 ∨ k = 33 ∨ k = 34 ∨ k = 35 ∨ k = 36 ∨ k = 37 ∨ k = 38 ∨ k = 39 ∨ k = 40 ∨ k = 41 ∨ k = 42 ∨ k = 43 ∨ k = 44 ∨ k = 45 := by omega
  rcases this with h | h | h | h | h | h | h | h | h | h | h | h | h | h | h | h | h | h | h | h | h | h | h | h | h | h | h | h | h | h | h | h | h | h | h | h | h | h | h | h | h | h | h | h | h | h <;> subst h <;> (show Sem.run _ _ _ = _; kernel_rfl)
theorem of_in (k : Nat) (hk : k < 46) (w : World) :
    Calls Try.prog 25 #[.int .i64 (k : Int)] w fun e w' => e = .returned (.agg #[.string (nmB k), .int .u8 (fm k), .int .u32 (cd k), .int .u32 (th k), .int .u32 (sv k)]) ∧ Below w.heap.size w w' := by
  have hi := index_tbl k hk
  go_enter Try.func25, Try.ntmps25
  go_wp2_with (go_at_call 36; refine (table_c _).mono ?_; rintro e w' ⟨rfl, rfl⟩)
  refine bodyPost_ret (v := .agg #[.string (nmB k), .int .u8 (fm k), .int .u32 (cd k), .int .u32 (th k), .int .u32 (sv k)]) (by simp [results, Try.results25, go_sem]) rfl ⟨rfl, (by repeat (first | exact Below.refl _ _ | apply Below.drew | (refine Below.alloc ?_ (by simp) _) | (refine Below.setCell ?_ (by simp) _)))⟩
theorem of_out (op : Int) (h : op < 0 ∨ 46 ≤ op) (w : World) :
    Calls Try.prog 25 #[.int .i64 op] w fun e w' => e = .returned (.agg #[.string ⟨#[]⟩, .int .u8 0, .int .u32 0, .int .u32 0, .int .u32 0]) ∧ Below w.heap.size w w' := by
  rcases h with h | h
  all_goals
    go_enter Try.func25, Try.ntmps25
    go_wp2_with (go_at_call 36; refine (table_c _).mono ?_; rintro e w' ⟨rfl, rfl⟩)
    refine bodyPost_ret (v := .agg #[.string ⟨#[]⟩, .int .u8 0, .int .u32 0, .int .u32 0, .int .u32 0]) (by simp [results, Try.results25, go_sem]) rfl ⟨rfl, (by repeat (first | exact Below.refl _ _ | apply Below.drew | (refine Below.alloc ?_ (by simp) _) | (refine Below.setCell ?_ (by simp) _)))⟩
end Go.Proofs.Ytppmjdljnacpgaa
