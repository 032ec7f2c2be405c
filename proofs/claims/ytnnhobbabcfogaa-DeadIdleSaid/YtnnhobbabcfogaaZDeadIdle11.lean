/-
  A walk through the blocks as plain data: by calling itself, and with a stack.
-/
import Derived.Test.YtnnhobbabcfogaaZDeadIdle10
set_option linter.all false
namespace Go.Proofs.Ytnnhobbabcfogaa
open Go.ChangeShapes Go.WideShapes Go.ChangeAt Go.RowKit

/-- what a walk has gathered: how it stands to each block, those left, and where ends lead back -/
structure S3 where
  st : List Int
  ord : List Int
  back : List (Int × Int)
def S3.enter (s : S3) (n : Int) : S3 := { s with st := s.st.set n.toNat 1 }
def S3.leave (s : S3) (n : Int) : S3 := { s with st := s.st.set n.toNat 2, ord := s.ord ++ [n] }
def S3.loop (s : S3) (n t : Int) : S3 := { s with back := s.back ++ [(n, t)] }
def S3.look (s : S3) (n : Int) : Int := s.st.getD n.toNat 0
def S3.zeros (s : S3) : Nat := s.st.count 0
/-- into a block, on, and out -/
def rI (p : Pr) : Nat → Int → S3 → S3
  | 0, _, s => s
  | f + 1, n, s => ((outsP p n.toNat).foldl (fun s t => if s.look t = 1 then s.loop n t else if s.look t = 0 then rI p f t s else s) (s.enter n)).leave n
/-- one way on -/
def hI (p : Pr) (f : Nat) (n : Int) (s : S3) (t : Int) : S3 := if s.look t = 1 then s.loop n t else if s.look t = 0 then rI p f t s else s
theorem rI_succ (p : Pr) (f : Nat) (n : Int) (s : S3) : rI p (f + 1) n s = ((outsP p n.toNat).foldl (hI p f n) (s.enter n)).leave n := rfl
theorem enter_len (s : S3) (n : Int) : (s.enter n).st.length = s.st.length := by simp [S3.enter]
theorem leave_len (s : S3) (n : Int) : (s.leave n).st.length = s.st.length := by simp [S3.leave]
theorem loop_len (s : S3) (n t : Int) : (s.loop n t).st.length = s.st.length := rfl
theorem outsP_mem {p : Pr} {n : Nat} {t : Int} (h : t ∈ outsP p n) : 0 ≤ t ∧ t < p.blks.length := by
  unfold outsP at h
  simpa using (List.mem_filter.1 h).2
theorem rI_len (p : Pr) : ∀ (f : Nat) (n : Int) (s : S3), (rI p f n s).st.length = s.st.length := by
  intro f
  induction f with
  | zero => intro n s; rfl
  | succ f ih =>
    intro n s
    rw [rI_succ, leave_len]
    have : ∀ (l : List Int) (s : S3), (l.foldl (hI p f n) s).st.length = s.st.length := by
      intro l
      induction l with
      | nil => intro s; rfl
      | cons t l ihl =>
        intro s
        rw [List.foldl_cons, ihl]
        unfold hI
        split
        · rfl
        · split
          · exact ih _ _
          · rfl
    rw [this, enter_len]
theorem hI_len (p : Pr) (f : Nat) (n : Int) (s : S3) (t : Int) : (hI p f n s t).st.length = s.st.length := by
  unfold hI
  split
  · rfl
  · split
    · exact rI_len _ _ _ _
    · rfl
theorem zeros_set_le (l : List Int) (i : Nat) (x : Int) (hx : x ≠ 0) : (l.set i x).count 0 ≤ l.count 0 := by
  by_cases h : i < l.length
  · rw [List.count_set h]
    have : (x == (0 : Int)) = false := by simpa using hx
    simp [this]
  · rw [List.set_eq_of_length_le (by omega)]; exact Nat.le_refl _
theorem zeros_enter_le (s : S3) (n : Int) : (s.enter n).zeros ≤ s.zeros := zeros_set_le _ _ _ (by decide)
theorem zeros_leave_le (s : S3) (n : Int) : (s.leave n).zeros ≤ s.zeros := zeros_set_le _ _ _ (by decide)
theorem zeros_enter (s : S3) (n : Int) (h : n.toNat < s.st.length) (h0 : s.look n = 0) : (s.enter n).zeros + 1 = s.zeros := by
  unfold S3.zeros S3.enter
  have h1 : s.st[n.toNat] = 0 := by simpa [S3.look, List.getD, h] using h0
  have h2 : 0 < s.st.count 0 := List.count_pos_iff.2 (h1 ▸ List.getElem_mem h)
  simp only
  rw [List.count_set h]
  simp [h1]
  omega
theorem hI_zeros_of (p : Pr) (f : Nat) (ih : ∀ n s, (rI p f n s).zeros ≤ s.zeros) (n : Int) (s : S3) (t : Int) : (hI p f n s t).zeros ≤ s.zeros := by
  unfold hI
  split
  · exact Nat.le_refl _
  · split
    · exact ih _ _
    · exact Nat.le_refl _
theorem foldl_zeros_of (p : Pr) (f : Nat) (ih : ∀ n s, (rI p f n s).zeros ≤ s.zeros) (n : Int) : ∀ (l : List Int) (s : S3), (l.foldl (hI p f n) s).zeros ≤ s.zeros
  | [], _ => Nat.le_refl _
  | t :: l, s => Nat.le_trans (foldl_zeros_of p f ih n l _) (hI_zeros_of p f ih n s t)
theorem rI_zeros (p : Pr) : ∀ (f : Nat) (n : Int) (s : S3), (rI p f n s).zeros ≤ s.zeros
  | 0, _, _ => Nat.le_refl _
  | f + 1, n, s => by
    rw [rI_succ]
    exact Nat.le_trans (zeros_leave_le _ _) (Nat.le_trans (foldl_zeros_of p f (rI_zeros p f) n _ _) (zeros_enter_le _ _))
theorem hI_zeros (p : Pr) (f : Nat) (n : Int) (s : S3) (t : Int) : (hI p f n s t).zeros ≤ s.zeros := hI_zeros_of p f (rI_zeros p f) n s t
/-- with as many steps as there are blocks not seen, more steps make no difference -/
theorem rI_fuel (p : Pr) : ∀ (f : Nat) (n : Int) (s : S3), s.st.length = p.blks.length → n.toNat < p.blks.length → s.look n = 0 → s.zeros ≤ f → rI p (f + 1) n s = rI p f n s := by
  intro f
  induction f with
  | zero => intro n s hl hn h0 hz; have := zeros_enter s n (by omega) h0; omega
  | succ f ih =>
    intro n s hl hn h0 hz
    rw [rI_succ p (f + 1), rI_succ p f]
    congr 1
    have hz1 := zeros_enter s n (by omega) h0
    have key : ∀ (l : List Int) (s : S3), (∀ t ∈ l, 0 ≤ t ∧ t < p.blks.length) → s.st.length = p.blks.length → s.zeros ≤ f → l.foldl (hI p (f + 1) n) s = l.foldl (hI p f n) s := by
      intro l
      induction l with
      | nil => intro s _ _ _; rfl
      | cons t l ihl =>
        intro s hin hsl hsz
        have ht := hin t (List.mem_cons_self)
        rw [List.foldl_cons, List.foldl_cons]
        have e : hI p (f + 1) n s t = hI p f n s t := by
          unfold hI
          split
          · rfl
          · split
            · exact ih t s hsl (by omega) ‹_› hsz
            · rfl
        rw [e]
        exact ihl _ (fun x hx => hin x (List.mem_cons_of_mem _ hx)) (by rw [hI_len]; exact hsl) (Nat.le_trans (hI_zeros _ _ _ _ _) hsz)
    exact key _ _ (fun t ht => outsP_mem ht) (by rw [enter_len]; exact hl) (by omega)

/-- where a walk stands: a block, the ways on that are left, and how these lie in memory -/
structure Kt where
  n : Int
  l : List Int
  v : Value
def gK (p : Pr) (f : Nat) (k : Kt) (s : S3) : S3 := (k.l.foldl (hI p f k.n) s).leave k.n
/-- what comes of a stack -/
def contD (p : Pr) (f : Nat) (S : List Kt) (s : S3) : S3 := S.foldr (gK p f) s
theorem contD_leave (p : Pr) (f : Nat) (S : List Kt) (n : Int) (v : Value) (s : S3) : contD p f (S ++ [⟨n, [], v⟩]) s = contD p f S (s.leave n) := by
  unfold contD; rw [List.foldr_append]; rfl
theorem contD_step (p : Pr) (f : Nat) (S : List Kt) (n t : Int) (l : List Int) (v v' : Value) (s : S3) : contD p f (S ++ [⟨n, t :: l, v⟩]) s = contD p f (S ++ [⟨n, l, v'⟩]) (hI p f n s t) := by
  unfold contD; rw [List.foldr_append, List.foldr_append]; rfl
theorem contD_push (p : Pr) (f : Nat) (S : List Kt) (t : Int) (v : Value) (s : S3) (hl : s.st.length = p.blks.length) (hn : t.toNat < p.blks.length) (h0 : s.look t = 0) (hz : s.zeros ≤ f) : contD p f S (rI p f t s) = contD p f (S ++ [⟨t, outsP p t.toNat, v⟩]) (s.enter t) := by
  unfold contD
  rw [List.foldr_append, ← rI_fuel p f t s hl hn h0 hz, rI_succ]
  rfl
/-- how much there is left to do -/
def todo (S : List Kt) (s : S3) : Nat := (S.map fun k => k.l.length + 1).sum + 4 * s.zeros
theorem todo_leave (S : List Kt) (n : Int) (v : Value) (s : S3) : todo S (s.leave n) < todo (S ++ [⟨n, [], v⟩]) s := by
  have := zeros_leave_le s n
  unfold todo
  simp
  omega
theorem todo_old (S : List Kt) (n t : Int) (l : List Int) (v v' : Value) (s s' : S3) (h : s'.zeros = s.zeros) : todo (S ++ [⟨n, l, v'⟩]) s' < todo (S ++ [⟨n, t :: l, v⟩]) s := by
  unfold todo
  simp
  omega
theorem outsP_len (p : Pr) (n : Nat) : (outsP p n).length ≤ 2 := Nat.le_trans (List.length_filter_le _ _) (outsB_len _)
theorem todo_new (p : Pr) (S : List Kt) (n t : Int) (l : List Int) (v v' v2 : Value) (s : S3) (hn : t.toNat < s.st.length) (h0 : s.look t = 0) : todo (S ++ [⟨n, l, v'⟩] ++ [⟨t, outsP p t.toNat, v2⟩]) (s.enter t) < todo (S ++ [⟨n, t :: l, v⟩]) s := by
  have := zeros_enter s t hn h0
  have := outsP_len p t.toNat
  unfold todo
  simp
  omega
end Go.Proofs.Ytnnhobbabcfogaa
