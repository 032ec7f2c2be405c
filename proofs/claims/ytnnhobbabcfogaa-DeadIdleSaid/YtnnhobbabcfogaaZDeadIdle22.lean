/-
  What is live behind each instruction: the marking carried back from the block's end is the search.; Which instructions and stores nobody asks for, as plain data; places of which something holds, rising.
-/
import Derived.Test.YtnnhobbabcfogaaZDeadIdle21

set_option linter.all false
namespace Go.Proofs.Ytnnhobbabcfogaa

theorem live_at {p : Pr} {n : Nat} {lo : List Bool} (h : ∀ r : Nat, r < lo.length → lo.getD r false = liveP p n (p.blks.getD n default).ins.length r) (k : Nat) {r : Nat} (hr : r < lo.length) :
    (backK lo ((p.blks.getD n default).ins.drop k)).getD r false = liveP p n k r := by
  rw [backK_get _ _ _ hr]
  have e1 : lo.getD r false = true ↔ LvE p r n := by rw [h r hr]; exact liveP_end p n r
  rw [Bool.eq_iff_iff, liveP_iff]
  unfold LvE at e1
  have e2 : withinB (p.blks.getD n default) k r = if withinI r ((p.blks.getD n default).ins.drop k) = 0 then (if endReads (p.blks.getD n default) r = true then 1 else 0) else withinI r ((p.blks.getD n default).ins.drop k) := by
    unfold withinB; rfl
  rw [e2]
  simp only [Bool.or_eq_true, Bool.and_eq_true, decide_eq_true_eq, e1]
  rcases withinI_cases r ((p.blks.getD n default).ins.drop k) with h0 | h0 | h0 <;> rw [h0] <;> cases endReads (p.blks.getD n default) r <;> simp
theorem backK_step (lo : List Bool) (l : List In) (k : Nat) (hk : k < l.length) : backK lo (l.drop k) = beforeB (backK lo (l.drop (k + 1))) (l.getD k default) := by
  rw [drop_cons l k hk]; rfl
theorem backK_end (lo : List Bool) (l : List In) : backK lo (l.drop l.length) = lo := by simp [backK]
end Go.Proofs.Ytnnhobbabcfogaa

set_option linter.all false
namespace Go.Proofs.Ytnnhobbabcfogaa

/-- the places below k of which h holds, rising -/
def posU (h : Nat → Bool) (k : Nat) : List Int := ((List.range k).filter h).map fun i : Nat => (i : Int)
theorem posU_succ (h : Nat → Bool) (k : Nat) : posU h (k + 1) = posU h k ++ (if h k = true then [(k : Int)] else []) := by
  unfold posU
  rw [List.range_succ, List.filter_append, List.map_append]
  congr 1
  cases e : h k <;> simp [e]
theorem posU_no {h : Nat → Bool} {k : Nat} (e : h k = false) : posU h (k + 1) = posU h k := by rw [posU_succ, e]; simp
theorem posU_yes {h : Nat → Bool} {k : Nat} (e : h k = true) : posU h (k + 1) = posU h k ++ [(k : Int)] := by rw [posU_succ, e]; simp
theorem posU_le (h : Nat → Bool) (k : Nat) : (posU h k).length ≤ k := by
  unfold posU
  rw [List.length_map]
  have := List.length_filter_le h (List.range k)
  rwa [List.length_range] at this
theorem posU_pre (h : Nat → Bool) {j k : Nat} (hjk : j ≤ k) : posU h j <+: posU h k := by
  obtain ⟨d, rfl⟩ := Nat.le.dest hjk
  clear hjk
  induction d with
  | zero => exact List.prefix_refl _
  | succ d ih =>
    refine ih.trans ?_
    rw [← Nat.add_assoc, posU_succ]
    exact List.prefix_append _ _
theorem posU_at (h : Nat → Bool) {i k : Nat} (hi : i < k) (e : h i = true) : (posU h i).length < (posU h k).length ∧ (posU h k).getD (posU h i).length 0 = (i : Int) := by
  obtain ⟨r, hr⟩ := posU_pre h (show i + 1 ≤ k from hi)
  rw [posU_yes e] at hr
  rw [← hr]
  constructor
  · simp
  · simp [List.getD]
theorem posU_congr {h g : Nat → Bool} (k : Nat) (e : ∀ i, i < k → h i = g i) : posU h k = posU g k := by
  induction k with
  | zero => rfl
  | succ k ih => rw [posU_succ, posU_succ, ih fun i hi => e i (by omega), e k (by omega)]
theorem posU_mem {h : Nat → Bool} {k : Nat} {x : Int} (hx : x ∈ posU h k) : 0 ≤ x ∧ x < k ∧ h x.toNat = true := by
  unfold posU at hx
  simp only [List.mem_map, List.mem_filter, List.mem_range] at hx
  obtain ⟨i, ⟨h1, h2⟩, rfl⟩ := hx
  exact ⟨by omega, by omega, by simpa using h2⟩
theorem posU_mem_iff (h : Nat → Bool) {i k : Nat} (hi : i < k) : (i : Int) ∈ posU h k ↔ h i = true := by
  constructor
  · intro hx; have := (posU_mem hx).2.2; simpa using this
  · intro e
    unfold posU
    simp only [List.mem_map, List.mem_filter, List.mem_range]
    exact ⟨i, ⟨hi, e⟩, rfl⟩
/-- the places from k on, below len, falling -/
def posD (h : Nat → Bool) (len : Nat) : Nat → List Int
  | 0 => []
  | d + 1 => posD h len d ++ (if h (len - 1 - d) = true then [((len - 1 - d : Nat) : Int)] else [])
theorem posD_no {h : Nat → Bool} {len d : Nat} (e : h (len - 1 - d) = false) : posD h len (d + 1) = posD h len d := by simp [posD, e]
theorem posD_yes {h : Nat → Bool} {len d : Nat} (e : h (len - 1 - d) = true) : posD h len (d + 1) = posD h len d ++ [((len - 1 - d : Nat) : Int)] := by simp [posD, e]
theorem posD_succ (h : Nat → Bool) (len d : Nat) : posD h len (d + 1) = posD h len d ++ (if h (len - 1 - d) = true then [((len - 1 - d : Nat) : Int)] else []) := rfl
theorem posD_le (h : Nat → Bool) (len d : Nat) : (posD h len d).length ≤ d := by
  induction d with
  | zero => simp [posD]
  | succ d ih => rw [posD_succ, List.length_append]; split <;> simp <;> omega
theorem posD_part (h : Nat → Bool) (len d : Nat) (hd : d ≤ len) : posU h (len - d) ++ (posD h len d).reverse = posU h len := by
  induction d with
  | zero => simp [posD]
  | succ d ih =>
    have ih := ih (by omega)
    have e : len - d = (len - (d + 1)) + 1 := by omega
    have e2 : len - 1 - d = len - (d + 1) := by omega
    rw [e, posU_succ, List.append_assoc] at ih
    rw [← ih]
    congr 1
    rw [posD_succ, List.reverse_append, e2]
    split <;> simp
theorem posD_all (h : Nat → Bool) (len : Nat) : (posD h len len).reverse = posU h len := by
  have := posD_part h len len (Nat.le_refl _)
  rw [Nat.sub_self] at this
  simpa [posU] using this

/-- does a store hide one of another place ahead of it? -/
def hidesF (s y : In) : Bool := y.op == 6 && (y.size == s.size && (y.a == s.a && y.off == s.off))
def stopsF (s i : In) : Bool := i.op == 5 || (i.op == 9 || (i.op == 12 || defI i == s.a))
def hiddenF (s : In) : List In → Bool
  | [] => false
  | i :: l => if hidesF s i = true then true else if stopsF s i = true then false else hiddenF s l
def storeI (l : List In) (k : Nat) : Bool := (l.getD k default).op == 6 && (!(l.getD k default).log && hiddenF (l.getD k default) (l.drop (k + 1)))
def idleI (p : Pr) (n k : Nat) : Bool := pureI ((p.blks.getD n default).ins.getD k default) && !liveP p n (k + 1) ((p.blks.getD n default).ins.getD k default).d
/-- the places of a block at which nobody asks for the instruction, and the store -/
def idleL (p : Pr) (n : Nat) : List Int := posU (idleI p n) (p.blks.getD n default).ins.length
def storeL (p : Pr) (n : Nat) : List Int := posU (storeI (p.blks.getD n default).ins) (p.blks.getD n default).ins.length
theorem hiddenF_drop (s : In) (l : List In) {k : Nat} (hk : k < l.length) : hiddenF s (l.drop k) = if hidesF s (l.getD k default) = true then true else if stopsF s (l.getD k default) = true then false else hiddenF s (l.drop (k + 1)) := by
  rw [drop_cons l k hk]; rfl
theorem hiddenF_end (s : In) (l : List In) : hiddenF s (l.drop l.length) = false := by rw [List.drop_length]; rfl
end Go.Proofs.Ytnnhobbabcfogaa
