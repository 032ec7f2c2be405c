/-
  A table of rows of integers that grow one by one; which blocks lead to which, gathered so.
-/
import Derived.Test.YtegkbopibacfoaaG17
set_option linter.all false
namespace Go.Proofs.Ytegkbopibacfoaa
open Go.ChangeShapes Go.WideShapes Go.ChangeAt Go.RowKit
set_option maxHeartbeats 2000000
set_option maxRecDepth 20000

/-- the blocks before n that lead to t, and n if it is among the first k ways on -/
def prR (p : Pr) (n k : Nat) (t : Int) : List Int := predsU p t n ++ (if hasL ((outsP p n).take k) t = true then [(n : Int)] else [])
def prT (p : Pr) (n k : Nat) : List (List Int) := (List.range p.blks.length).map fun t : Nat => prR p n k (t : Int)
theorem outsP_nodup (p : Pr) (n : Nat) : (outsP p n).Nodup := by
  unfold outsP
  refine List.Pairwise.sublist List.filter_sublist (?_ : List.Nodup _)
  unfold outsB
  split
  · simp
  · split
    · rename_i h1 h2
      simp
      intro e
      exact h1 (.inr ⟨h2, e⟩)
    · simp
theorem prT_len (p : Pr) (n k : Nat) : (prT p n k).length = p.blks.length := by simp [prT]
theorem prT_get (p : Pr) (n k t : Nat) (h : t < p.blks.length) : (prT p n k).getD t [] = prR p n k t := by simp [prT, List.getD, h]
theorem prT_next (p : Pr) (n : Nat) : prT p n (outsP p n).length = prT p (n + 1) 0 := by
  unfold prT prR
  refine List.map_congr_left fun t _ => ?_
  rw [List.take_length, List.take_zero]
  cases e : hasL (outsP p n) t
  · rw [predsU_no p t n e]; simp [hasL]
  · rw [predsU_yes p t n e]; simp [hasL]
theorem prT_0 (p : Pr) : prT p 0 0 = List.replicate p.blks.length [] := by
  unfold prT prR
  apply List.ext_getElem (by simp)
  intro i h1 h2
  simp [predsU, hasL]
theorem prT_step (p : Pr) (n k tk : Nat) (hk : k < (outsP p n).length) (ht : (outsP p n).getD k 0 = (tk : Int)) : prT p n (k + 1) = (prT p n k).set tk (prR p n k tk ++ [(n : Int)]) := by
  have hno : hasL ((outsP p n).take k) tk = false := by
    rw [Bool.eq_false_iff]
    intro h
    obtain ⟨i, hi, hi', e⟩ := mem_take_getD ((hasL_iff _ _).1 h)
    rw [← ht] at e
    have := nodup_at (outsP_nodup p n) hi' hk e
    omega
  apply List.ext_getElem (by simp [prT])
  intro i h1 h2
  have hi : i < p.blks.length := by simpa [prT] using h1
  rw [List.getElem_set]
  simp only [prT, List.getElem_map, List.getElem_range]
  have hstep : hasL ((outsP p n).take (k + 1)) i = (hasL ((outsP p n).take k) i || ((i : Int) == (tk : Int))) := by
    rw [take_snoc _ k hk, ht]
    unfold hasL
    rw [Bool.eq_iff_iff, Bool.or_eq_true, List.contains_iff_mem, List.contains_iff_mem, List.mem_append, List.mem_singleton, beq_iff_eq]
  unfold prR
  by_cases e : tk = i
  · subst e
    rw [if_pos rfl, hstep, hno]
    simp
  · rw [if_neg e, hstep, show ((i : Int) == (tk : Int)) = false from beq_eq_false_iff_ne.2 (by omega), Bool.or_false]
theorem prR_len (p : Pr) (n k : Nat) (t : Int) : (prR p n k t).length ≤ n + 1 := by
  have := predsU_le p t n
  unfold prR
  rw [List.length_append]
  split <;> simp <;> omega
theorem prT_all (p : Pr) (t : Nat) (h : t < p.blks.length) : (prT p p.blks.length 0).getD t [] = predsP p t := by
  rw [prT_get p _ _ t h]
  unfold prR predsU predsP
  simp [hasL]

theorem info_sl : (Try.prog.info? 36).map (fun i => (i.zero, i.size, i.bytes)) = some (some (.slice none 0 0), 1, 24) := by kernel_rfl
/-- a table of rows of the call's own -/
structure PT (W0 w : World) (gP B n : Nat) (vs : List Value) (rows : List (List Int)) : Prop where
  below : Below W0.heap.size W0 w
  tab : w.ownsRow 0 36 1 (.slice (some ⟨gP, 0, none⟩) n n) n vs
  row : ∀ j, j < n → OwnI w B (vs.getD j undef) (rows.getD j [])
  ne : ∀ i j, i < n → j < n → i ≠ j → (vs.getD i undef).ownBlock = none ∨ (vs.getD i undef).ownBlock ≠ (vs.getD j undef).ownBlock
  g0 : W0.heap.size ≤ gP
  gB : gP < B
  Bw : B ≤ w.heap.size
  len : rows.length = n
section
variable {W0 w w' : World} {gP B n : Nat} {vs : List Value} {rows : List (List Int)}
theorem PT.vlen (h : PT W0 w gP B n vs rows) : vs.length = n := by have := h.tab.1; omega
theorem PT.grow (h : PT W0 w gP B n vs rows) (hb : Below w.heap.size w w') : PT W0 w' gP B n vs rows := by
  have hg : w.grownBy w' none := ⟨hb.os, hb.tape, hb.output, hb.size, fun k hk _ => hb.block k hk⟩
  have h1 := h.g0
  have h2 := h.gB
  have h3 := h.Bw
  exact ⟨h.below.trans (hb.mono (by omega)), World.ownsRow.kept h.tab hg (.inr (by simp [Value.ownBlock])), fun j hj => (h.row j hj).below hb, h.ne, h.g0, h.gB, Nat.le_trans h.Bw hb.size, h.len⟩
theorem PT.cell (h : PT W0 w gP B n vs rows) {j : Nat} (hj : j < n) : w.cell? ⟨gP, j, none⟩ = some (vs.getD j undef) := by
  have := h.tab.cellAt j (by omega)
  rw [this]
  simp [List.getD, h.vlen, hj]
theorem getD_setV (l : List Value) (i j : Nat) (x : Value) (h : i < l.length) : (l.set i x).getD j undef = if j = i then x else l.getD j undef := by
  simp only [List.getD, List.getElem?_set]
  by_cases e : i = j
  · subst e; simp [h]
  · simp [e, Ne.symm e]
theorem getD_setR (l : List (List Int)) (i j : Nat) (x : List Int) (h : i < l.length) : (l.set i x).getD j [] = if j = i then x else l.getD j [] := by
  simp only [List.getD, List.getElem?_set]
  by_cases e : i = j
  · subst e; simp [h]
  · simp [e, Ne.symm e]
theorem PT.push {v' : Value} {j : Nat} {x : Int} (h : PT W0 w gP B n vs rows) (hj : j < n) (hg : w.grownBy w' (vs.getD j undef).ownBlock)
    (ho : w'.ownsRow B 3 1 v' ((rows.getD j []).length + 1) ((rows.getD j []).map (Value.int .i64) ++ [.int .i64 x])) (hat : v'.ownBlock = (vs.getD j undef).ownBlock ∨ v'.ownBlock = some w.heap.size) :
    PT W0 (w'.setCell ⟨gP, j, none⟩ v') gP B n (vs.set j v') (rows.set j (rows.getD j [] ++ [x])) := by
  have h1 := h.g0
  have h2 := h.gB
  have h3 := h.Bw
  have hvl := h.vlen
  have hrl := h.len
  have fr : ∀ i, i < n → ∀ b, (vs.getD i undef).ownBlock = some b → B ≤ b ∧ b < w.heap.size := fun i hi b e => World.ownsRow.lt (h.row i hi) b e
  have htab := World.ownsRow.kept h.tab hg (.inr (fun e => by have := (fr j hj gP e.symm).1; omega))
  obtain ⟨htab2, hg2⟩ := htab.stored j v'
  have hB1 := Nat.le_trans h.Bw hg.size
  refine ⟨?_, htab2, fun i hi => ?_, fun i k hi hk hik => ?_, h.g0, h.gB, by simpa using hB1, by simpa using h.len⟩
  · exact (grown_below h.below (Nat.le_trans (by omega) h.Bw) hg (fun b e => by have := (fr j hj b e).1; omega)).setCell h.g0 _
  · rw [getD_setV _ _ _ _ (by omega), getD_setR _ _ _ _ (by omega)]
    by_cases e : i = j
    · rw [if_pos e, if_pos e]
      have hown : OwnI w' B v' (rows.getD j [] ++ [x]) := by unfold OwnI; simpa using ho
      exact far_set hown h.gB
    · rw [if_neg e, if_neg e]
      exact far_set (World.ownsRow.kept (h.row i hi) hg (h.ne i j hi hj e)) h.gB
  · rw [getD_setV _ _ _ _ (by omega), getD_setV _ _ _ _ (by omega)]
    by_cases e : i = j
    · rw [if_pos e, if_neg (fun e2 => hik (e.trans e2.symm))]
      rcases hat with e2 | e2
      · rw [e2]; exact h.ne j k hj hk (fun e3 => hik (e.trans e3))
      · right
        rw [e2]
        intro e3
        have := (fr k hk _ e3.symm).2
        omega
    · rw [if_neg e]
      by_cases e4 : k = j
      · rw [if_pos e4]
        rcases hat with e2 | e2
        · rw [e2]; exact h.ne i j hi hj e
        · by_cases e5 : (vs.getD i undef).ownBlock = none
          · exact .inl e5
          · right
            rw [e2]
            intro e3
            have := (fr i hi _ e3).2
            omega
      · rw [if_neg e4]; exact h.ne i k hi hk hik
end
end Go.Proofs.Ytegkbopibacfoaa
