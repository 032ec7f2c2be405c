/-
  How the reference's walk lies in memory, and what its stores and appends make of it.
-/
import Derived.Test.YtegkbopibacfoaaG12
set_option linter.all false
namespace Go.Proofs.Ytegkbopibacfoaa
open Go.ChangeShapes Go.WideShapes Go.ChangeAt Go.RowKit
set_option maxHeartbeats 400000
set_option maxRecDepth 10000

/-- the reference's walk: the struct at block bw, the states at block bs; rows of its own from block B on -/
structure RM (w : World) (bw bs B n : Nat) (s : S3) (ov bv : Value) : Prop where
  wk : w.ownsRow 0 51 3 (.slice (some ⟨bw, 0, none⟩) 1 1) 1 [.slice (some ⟨bs, 0, none⟩) n n, ov, bv]
  st : w.ownsRow 0 3 1 (.slice (some ⟨bs, 0, none⟩) n n) n (s.st.map (Value.int .i64))
  ord : w.ownsRow B 3 1 ov s.ord.length (s.ord.map (Value.int .i64))
  back : w.ownsRow B 42 2 bv s.back.length (pairsV s.back)
  bwB : bw < B
  bsB : bs < B
  Bw : B ≤ w.heap.size
/-- what lies in none of the walk's blocks stays, and its rows are those of before or new -/
structure FrR (w w' : World) (bw bs : Nat) (ov bv ov' bv' : Value) : Prop where
  os : w'.os = w.os
  tape : w'.tape = w.tape
  output : w'.output = w.output
  size : w.heap.size ≤ w'.heap.size
  block : ∀ k, k < w.heap.size → k ≠ bw → k ≠ bs → ov.ownBlock ≠ some k → bv.ownBlock ≠ some k → w'.heap[k]? = w.heap[k]?
  no : NewB w ov ov'
  nb : NewB w bv bv'
theorem FrR.refl (w : World) (bw bs : Nat) (ov bv : Value) : FrR w w bw bs ov bv ov bv := ⟨rfl, rfl, rfl, Nat.le_refl _, fun _ _ _ _ _ _ => rfl, .refl _ _, .refl _ _⟩
theorem newB_far {w : World} {v v' : Value} {k : Nat} (h : NewB w v v') (hk : k < w.heap.size) (hv : v.ownBlock ≠ some k) : v'.ownBlock ≠ some k := by
  rcases h with e | ⟨j, hj, e⟩
  · rw [e]; exact hv
  · rw [e]; intro e2; simp only [Option.some.injEq] at e2; omega
theorem NewB.trans {w w1 : World} {v v1 v2 : Value} (h : NewB w v v1) (h1 : NewB w1 v1 v2) (hs : w.heap.size ≤ w1.heap.size) : NewB w v v2 := by
  rcases h1 with e | ⟨j, hj, e⟩
  · rcases h with e0 | ⟨k, hk, e0⟩
    · exact .inl (e.trans e0)
    · exact .inr ⟨k, hk, e.trans e0⟩
  · exact .inr ⟨j, Nat.le_trans hs hj, e⟩
theorem FrR.trans {a b c : World} {bw bs : Nat} {o1 b1 o2 b2 o3 b3 : Value} (h : FrR a b bw bs o1 b1 o2 b2) (h' : FrR b c bw bs o2 b2 o3 b3) : FrR a c bw bs o1 b1 o3 b3 :=
  ⟨h'.os.trans h.os, h'.tape.trans h.tape, h'.output.trans h.output, Nat.le_trans h.size h'.size,
    fun k hk k1 k2 k3 k4 => (h'.block k (Nat.lt_of_lt_of_le hk h.size) k1 k2 (newB_far h.no hk k3) (newB_far h.nb hk k4)).trans (h.block k hk k1 k2 k3 k4),
    h.no.trans h'.no h.size, h.nb.trans h'.nb h.size⟩
section
variable {w : World} {bw bs B n : Nat} {s : S3} {ov bv : Value}
theorem RM.bne (h : RM w bw bs B n s ov bv) : bw ≠ bs := fun e => by
  rcases rows_ne h.wk h.st (by decide) with h | h
  · simp [Value.ownBlock] at h
  · simp [Value.ownBlock, e] at h
theorem RM.len (h : RM w bw bs B n s ov bv) : s.st.length = n := by simpa using h.st.1
theorem RM.grow {w' : World} (h : RM w bw bs B n s ov bv) (hb : Below w.heap.size w w') : RM w' bw bs B n s ov bv ∧ FrR w w' bw bs ov bv ov bv := by
  have hg : w.grownBy w' none := ⟨hb.os, hb.tape, hb.output, hb.size, fun k hk _ => hb.block k hk⟩
  have nn : ∀ v : Value, v.ownBlock = none ∨ v.ownBlock ≠ none := fun v => by cases v.ownBlock <;> simp
  exact ⟨⟨h.wk.kept hg (nn _), h.st.kept hg (nn _), h.ord.kept hg (nn _), h.back.kept hg (nn _), h.bwB, h.bsB, Nat.le_trans h.Bw hb.size⟩, ⟨hb.os, hb.tape, hb.output, hb.size, fun k hk _ _ _ _ => hb.block k hk, .refl _ _, .refl _ _⟩⟩
theorem RM.setSt (h : RM w bw bs B n s ov bv) (k : Nat) (x : Int) : RM (w.setCell ⟨bs, k, none⟩ (.int .i64 x)) bw bs B n { s with st := s.st.set k x } ov bv ∧ FrR w (w.setCell ⟨bs, k, none⟩ (.int .i64 x)) bw bs ov bv ov bv := by
  obtain ⟨h1, hg⟩ := h.st.stored k (.int .i64 x)
  refine ⟨⟨h.wk.kept hg (.inr (by simp [Value.ownBlock, h.bne])), by rw [List.map_set]; exact h1, h.ord.kept hg (ne_of (row_far h.ord h.bsB)), h.back.kept hg (ne_of (row_far h.back h.bsB)), h.bwB, h.bsB, by simpa using h.Bw⟩,
    ⟨hg.os, hg.tape, hg.output, hg.size, fun k hk _ k2 _ _ => hg.block k hk (by simpa using k2), .refl _ _, .refl _ _⟩⟩
theorem RM.order {w1 : World} {ov' : Value} {x : Int} (h : RM w bw bs B n s ov bv) (hg : w.grownBy w1 ov.ownBlock) (ho : w1.ownsRow B 3 1 ov' (s.ord.length + 1) (s.ord.map (Value.int .i64) ++ [.int .i64 x])) (hat : ov'.ownBlock = ov.ownBlock ∨ ov'.ownBlock = some w.heap.size) :
    RM (w1.setCell ⟨bw, 1, none⟩ ov') bw bs B n { s with ord := s.ord ++ [x] } ov' bv ∧ FrR w (w1.setCell ⟨bw, 1, none⟩ ov') bw bs ov bv ov' bv := by
  have fr : ∀ b, ov.ownBlock = some b → B ≤ b := fun b e => (h.ord.lt b e).1
  have wk1 := h.wk.kept hg (.inr (fun e => by have := fr bw e.symm; have := h.bwB; omega))
  obtain ⟨wk2, hg2⟩ := wk1.stored 1 ov'
  have hB1 := Nat.le_trans h.Bw hg.size
  have k2 : ∀ {e s n v xs}, w1.ownsRow B e s v n xs → (w1.setCell ⟨bw, 1, none⟩ ov').ownsRow B e s v n xs := fun hr => hr.kept hg2 (ne_of (row_far hr h.bwB))
  refine ⟨⟨wk2, (h.st.kept hg (.inr (fun e => by have := fr bs e.symm; have := h.bsB; omega))).kept hg2 (.inr (by simp [Value.ownBlock, Ne.symm h.bne])), by simpa using k2 ho, k2 (h.back.kept hg (rows_ne h.back h.ord (by decide))), h.bwB, h.bsB, by simpa using hB1⟩,
    ⟨hg2.os.trans hg.os, hg2.tape.trans hg.tape, hg2.output.trans hg.output, Nat.le_trans hg.size hg2.size, fun k hk k1 _ k3 _ => (hg2.block k (Nat.lt_of_lt_of_le hk hg.size) (by simpa using k1)).trans (hg.block k hk (fun e => k3 e.symm)), row_or hat, .refl _ _⟩⟩
theorem RM.backs {w1 : World} {bv' : Value} {x y : Int} (h : RM w bw bs B n s ov bv) (hg : w.grownBy w1 bv.ownBlock) (ho : w1.ownsRow B 42 2 bv' (s.back.length + 1) (pairsV s.back ++ [.int .i64 x, .int .i64 y])) (hat : bv'.ownBlock = bv.ownBlock ∨ bv'.ownBlock = some w.heap.size) :
    RM (w1.setCell ⟨bw, 2, none⟩ bv') bw bs B n (s.loop x y) ov bv' ∧ FrR w (w1.setCell ⟨bw, 2, none⟩ bv') bw bs ov bv ov bv' := by
  have fr : ∀ b, bv.ownBlock = some b → B ≤ b := fun b e => (h.back.lt b e).1
  have wk1 := h.wk.kept hg (.inr (fun e => by have := fr bw e.symm; have := h.bwB; omega))
  obtain ⟨wk2, hg2⟩ := wk1.stored 2 bv'
  have hB1 := Nat.le_trans h.Bw hg.size
  have k2 : ∀ {e s n v xs}, w1.ownsRow B e s v n xs → (w1.setCell ⟨bw, 2, none⟩ bv').ownsRow B e s v n xs := fun hr => hr.kept hg2 (ne_of (row_far hr h.bwB))
  refine ⟨⟨wk2, (h.st.kept hg (.inr (fun e => by have := fr bs e.symm; have := h.bsB; omega))).kept hg2 (.inr (by simp [Value.ownBlock, Ne.symm h.bne])), k2 (h.ord.kept hg (rows_ne h.ord h.back (by decide))), by unfold S3.loop; rw [pairsV_snoc]; simpa using k2 ho, h.bwB, h.bsB, by simpa using hB1⟩,
    ⟨hg2.os.trans hg.os, hg2.tape.trans hg.tape, hg2.output.trans hg.output, Nat.le_trans hg.size hg2.size, fun k hk k1 _ _ k4 => (hg2.block k (Nat.lt_of_lt_of_le hk hg.size) (by simpa using k1)).trans (hg.block k hk (fun e => k4 e.symm)), .refl _ _, row_or hat⟩⟩
end
end Go.Proofs.Ytegkbopibacfoaa
