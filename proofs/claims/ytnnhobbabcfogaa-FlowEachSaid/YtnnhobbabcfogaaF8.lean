/-
  Contracts of the reference's functions of flow: has, within, leads, Preds.
-/
import Derived.Test.YtnnhobbabcfogaaF7
set_option linter.all false
namespace Go.Proofs.Ytnnhobbabcfogaa
open Go.ChangeShapes Go.WideShapes Go.ChangeAt Go.RowKit
set_option maxHeartbeats 1000000
set_option maxRecDepth 20000

/-- is a number in a list? -/
def hasL (l : List Int) (r : Int) : Bool := l.contains r
theorem any_take_succ (l : List Int) (r : Int) (i : Nat) (h : i < l.length) (h0 : ∀ j, j < i → (l.getD j 0 == r) = false) (h1 : (l.getD i 0 == r) = false) : ∀ j, j < i + 1 → (l.getD j 0 == r) = false := by
  intro j hj
  by_cases e : j = i
  · subst e; exact h1
  · exact h0 j (by omega)
theorem contains_no (l : List Int) (r : Int) (h : ∀ j, j < l.length → (l.getD j 0 == r) = false) : hasL l r = false := by
  unfold hasL
  rw [Bool.eq_false_iff]
  intro hc
  rw [List.contains_iff_mem] at hc
  obtain ⟨j, hj, rfl⟩ := List.getElem_of_mem hc
  have := h j hj
  simp [List.getD, hj] at this
theorem contains_yes (l : List Int) (r : Int) (i : Nat) (h : i < l.length) (h1 : (l.getD i 0 == r) = true) : hasL l r = true := by
  unfold hasL
  rw [List.contains_iff_mem]
  have : l.getD i 0 = r := eq_of_beq h1
  rw [← this]
  simp [List.getD, h]
theorem rhas_c (l : List Int) (v : Value) (r : Int) (w : World) (hv : RdI w v l) (hn : l.length ≤ 1000000) :
    Calls Try.prog 126 #[v, .int .i64 r] w fun e w' => e = .returned (.bool (hasL l r)) ∧ w = w' := by
  obtain ⟨a, c, rfl, hl1, hl2, hcell⟩ := hv
  have HC := Lib.hid hcell
  clear hcell
  go_enter Try.func126, Try.ntmps126
  go_wp2
  go_loop [5] (fun i => ∃ k : Nat, k ≤ l.length ∧ i = .int .i64 k ∧ Hid (∀ j, j < k → (l.getD j 0 == r) = false)) (fun i => l.length - (intOf i).toNat)
  case atStart => exact ⟨0, Nat.zero_le _, rfl, fun j hj => absurd hj (by omega)⟩
  case round =>
    obtain ⟨k, hk, rfl, hno⟩ := hrel
    by_cases hlt : k < l.length
    · obtain ⟨b, o, rfl, hcx⟩ := HC.out k hlt
      simp only [Nat.mul_one, Nat.add_zero] at hcx
      obtain ⟨x, hx⟩ : ∃ x, l.getD k 0 = x := ⟨_, rfl⟩
      rw [hx] at hcx
      have HX := Lib.hid hx
      clear hx
      by_cases hp : (x == r) = true
      · have HP := Lib.hid hp
        go_wp2
        go_ret
        exact ⟨ret_b (contains_yes l r k hlt (by rw [HX.out]; exact HP.out)).symm, rfl⟩
      · have hp := eq_false_of_ne_true hp
        have HP := Lib.hid hp
        go_wp2
        go_round
        case rel => exact ⟨k + 1, by omega, by go_num, any_take_succ l r k hlt hno.out (by rw [HX.out]; exact HP.out)⟩
        case measure => simp [intOf]; omega
    · have H := Lib.hid (contains_no l r fun j hj => hno.out j (by omega))
      go_wp2
      go_ret
      exact ⟨ret_b H.out.symm, rfl⟩
theorem OwnI.below {w w' : World} {B : Nat} {v : Value} {l : List Int} (h : OwnI w B v l) (hb : Below w.heap.size w w') : OwnI w' B v l := by
  obtain ⟨h1, h2 | ⟨g, cap, cur, h3, h4, h5, r⟩⟩ := h
  · exact ⟨h1, .inl h2⟩
  · exact ⟨h1, .inr ⟨g, cap, cur, h3, h4, (hb.block g (Array.getElem?_eq_some_iff.1 h5).1).trans h5, r⟩⟩
/-- the blocks that lead to a block -/
def predsP (p : Pr) (r : Int) : List Int := ((List.range p.blks.length).filter fun i => hasL (outsP p i) r).map fun i : Nat => (i : Int)
def predsU (p : Pr) (r : Int) (k : Nat) : List Int := ((List.range k).filter fun i => hasL (outsP p i) r).map fun i : Nat => (i : Int)
theorem predsU_yes (p : Pr) (r : Int) (k : Nat) (h : hasL (outsP p k) r = true) : predsU p r (k + 1) = predsU p r k ++ [(k : Int)] := by
  unfold predsU; rw [List.range_succ, List.filter_append, List.map_append, List.filter_cons, h]; rfl
theorem predsU_no (p : Pr) (r : Int) (k : Nat) (h : hasL (outsP p k) r = false) : predsU p r (k + 1) = predsU p r k := by
  unfold predsU; rw [List.range_succ, List.filter_append, List.map_append, List.filter_cons, h]; simp
theorem predsU_le (p : Pr) (r : Int) (k : Nat) : (predsU p r k).length ≤ k := by
  unfold predsU; rw [List.length_map]; exact Nat.le_trans (List.length_filter_le _ _) (by simp)
end Go.Proofs.Ytnnhobbabcfogaa
