/-
  Contract of flow's Reach.
-/
import Derived.Test.YtnnhobbabcfogaaG9
import Derived.Test.YtnnhobbabcfogaaG10
set_option linter.all false
namespace Go.Proofs.Ytnnhobbabcfogaa
open Go.ChangeShapes Go.WideShapes Go.ChangeAt Go.RowKit
set_option maxHeartbeats 2000000
set_option maxRecDepth 20000

/-- numbers of blocks that there are -/
def Blks (p : Pr) (l : List Int) : Prop := ∀ t ∈ l, 0 ≤ t ∧ t < (p.blks.length : Int)
theorem foldl_ord (p : Pr) (f : Nat) (n : Int) (ih : ∀ t s, (0 ≤ t ∧ t < (p.blks.length : Int)) → Blks p s.ord → Blks p (rI p f t s).ord) : ∀ (l : List Int) (s : S3), Blks p l → Blks p s.ord → Blks p (l.foldl (hI p f n) s).ord
  | [], _, _, hs => hs
  | t :: l, s, hl, hs => by
    rw [List.foldl_cons]
    refine foldl_ord p f n ih l _ (fun x hx => hl x (List.mem_cons_of_mem _ hx)) ?_
    unfold hI
    split
    · exact hs
    · split
      · exact ih t s (hl t List.mem_cons_self) hs
      · exact hs
theorem rI_ord (p : Pr) : ∀ (f : Nat) (n : Int) (s : S3), (0 ≤ n ∧ n < (p.blks.length : Int)) → Blks p s.ord → Blks p (rI p f n s).ord
  | 0, _, _, _, hs => hs
  | f + 1, n, s, hn, hs => by
    rw [rI_succ]
    have := foldl_ord p f n (rI_ord p f) (outsP p n.toNat) (s.enter n) (fun t ht => outsP_mem ht) hs
    intro t ht
    rcases List.mem_append.1 ht with ht | ht
    · exact this t ht
    · rw [List.mem_singleton.1 ht]; exact hn
theorem wkD_ord (p : Pr) : Blks p (wkD p).ord := by
  rcases Nat.eq_zero_or_pos p.blks.length with h0 | h0
  · unfold wkD
    rw [h0]
    intro t ht
    cases ht
  · exact rI_ord p _ 0 _ (by omega) (fun t ht => by cases ht)
/-- which blocks are reached -/
def reachP (p : Pr) : List Bool := marksB (List.replicate p.blks.length false) (wkD p).ord.reverse
end Go.Proofs.Ytnnhobbabcfogaa
