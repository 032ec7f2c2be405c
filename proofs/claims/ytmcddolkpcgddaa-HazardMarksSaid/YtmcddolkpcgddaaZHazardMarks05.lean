/-
 The walk of flow.Live.; A walk through the blocks as plain data: by calling itself, and with a stack.; How a walk through the blocks lies in memory, and what each of its stores and appends makes of it.
-/
import Derived.Test.YtmcddolkpcgddaaZHazardMarks04
import Derived.Deep.CutRange
import Derived.Deep.Cut
import Derived.Deep.CutBlock
import Derived.Maps.AppendAt
import Derived.Laws.OwnMore

set_option linter.all false
namespace Go.Proofs.Ytmcddolkpcgddaa
open Go.ChangeShapes Go.WideShapes Go.ChangeAt Go.RowKit
set_option maxHeartbeats 4000000
set_option maxRecDepth 20000

end Go.Proofs.Ytmcddolkpcgddaa

set_option linter.all false
namespace Go.Proofs.Ytmcddolkpcgddaa
open Go.ChangeShapes Go.WideShapes Go.ChangeAt Go.RowKit

/-- what a walk has gathered: how it stands to each block, those left, and where ends lead back -/
structure S3 where
 st : List Int
 ord : List Int
 back : List (Int × Int)
def S3.enter (s : S3) (n : Int) : S3 := { s with st := s.st.set n.toNat 1 }
def S3.leave (s : S3) (n : Int) : S3 := { s with st := s.st.set n.toNat 2, ord := s.ord ++ [n] }
def S3.loop (s : S3) (n t : Int) : S3 := { s with back := s.back ++ [(n, t)] }
def S3.look (s : S3) (n : Int) : Int := s.st.getD n.toNat 0
def S3.zeros (s : S3) : Nat := s.st.count 0
/-- into a block, on, and out -/
def rI (p : Pr) : Nat → Int → S3 → S3
 | 0, _, s => s
 | f + 1, n, s => ((outsP p n.toNat).foldl (fun s t => if s.look t = 1 then s.loop n t else if s.look t = 0 then rI p f t s else s) (s.enter n)).leave n
/-- one way on -/
def hI (p : Pr) (f : Nat) (n : Int) (s : S3) (t : Int) : S3 := if s.look t = 1 then s.loop n t else if s.look t = 0 then rI p f t s else s
theorem rI_succ (p : Pr) (f : Nat) (n : Int) (s : S3) : rI p (f + 1) n s = ((outsP p n.toNat).foldl (hI p f n) (s.enter n)).leave n := rfl
theorem enter_len (s : S3) (n : Int) : (s.enter n).st.length = s.st.length := by simp [S3.enter]
theorem leave_len (s : S3) (n : Int) : (s.leave n).st.length = s.st.length := by simp [S3.leave]
theorem outsP_mem {p : Pr} {n : Nat} {t : Int} (h : t ∈ outsP p n) : 0 ≤ t ∧ t < p.blks.length := by
 unfold outsP at h
 simpa using (List.mem_filter.1 h).2
theorem rI_len (p : Pr) : ∀ (f : Nat) (n : Int) (s : S3), (rI p f n s).st.length = s.st.length := by
 intro f
 induction f with
 | zero => intro n s; rfl
 | succ f ih =>
  intro n s
  rw [rI_succ, leave_len]
  have : ∀ (l : List Int) (s : S3), (l.foldl (hI p f n) s).st.length = s.st.length := by
   intro l
   induction l with
   | nil => intro s; rfl
   | cons t l ihl =>
    intro s
    rw [List.foldl_cons, ihl]
    unfold hI
    split
    ·rfl
    ·split
     ·exact ih _ _
     ·rfl
  rw [this, enter_len]
theorem hI_len (p : Pr) (f : Nat) (n : Int) (s : S3) (t : Int) : (hI p f n s t).st.length = s.st.length := by
 unfold hI
 split
 ·rfl
 ·split
  ·exact rI_len _ _ _ _
  ·rfl
theorem zeros_set_le (l : List Int) (i : Nat) (x : Int) (hx : x ≠ 0) : (l.set i x).count 0 ≤ l.count 0 := by
 by_cases h : i < l.length
 ·rw [List.count_set h]
  have : (x == (0 : Int)) = false := by simpa using hx
  simp [this]
 ·rw [List.set_eq_of_length_le (by omega)]; exact Nat.le_refl _
theorem zeros_enter_le (s : S3) (n : Int) : (s.enter n).zeros ≤ s.zeros := zeros_set_le _ _ _ (by decide)
theorem zeros_leave_le (s : S3) (n : Int) : (s.leave n).zeros ≤ s.zeros := zeros_set_le _ _ _ (by decide)
theorem zeros_enter (s : S3) (n : Int) (h : n.toNat < s.st.length) (h0 : s.look n = 0) : (s.enter n).zeros + 1 = s.zeros := by
 unfold S3.zeros S3.enter
 have h1 : s.st[n.toNat] = 0 := by simpa [S3.look, List.getD, h] using h0
 have h2 : 0 < s.st.count 0 := List.count_pos_iff.2 (h1 ▸ List.getElem_mem h)
 simp only
 rw [List.count_set h]
 simp [h1]
 omega
theorem hI_zeros_of (p : Pr) (f : Nat) (ih : ∀ n s, (rI p f n s).zeros ≤ s.zeros) (n : Int) (s : S3) (t : Int) : (hI p f n s t).zeros ≤ s.zeros := by
 unfold hI
 split
 ·exact Nat.le_refl _
 ·split
  ·exact ih _ _
  ·exact Nat.le_refl _
theorem foldl_zeros_of (p : Pr) (f : Nat) (ih : ∀ n s, (rI p f n s).zeros ≤ s.zeros) (n : Int) : ∀ (l : List Int) (s : S3), (l.foldl (hI p f n) s).zeros ≤ s.zeros
 | [], _ => Nat.le_refl _
 | t :: l, s => Nat.le_trans (foldl_zeros_of p f ih n l _) (hI_zeros_of p f ih n s t)
theorem rI_zeros (p : Pr) : ∀ (f : Nat) (n : Int) (s : S3), (rI p f n s).zeros ≤ s.zeros
 | 0, _, _ => Nat.le_refl _
 | f + 1, n, s => by
  rw [rI_succ]
  exact Nat.le_trans (zeros_leave_le _ _) (Nat.le_trans (foldl_zeros_of p f (rI_zeros p f) n _ _) (zeros_enter_le _ _))
theorem hI_zeros (p : Pr) (f : Nat) (n : Int) (s : S3) (t : Int) : (hI p f n s t).zeros ≤ s.zeros := hI_zeros_of p f (rI_zeros p f) n s t
/-- with as many steps as there are blocks not seen, more steps make no difference -/
theorem rI_fuel (p : Pr) : ∀ (f : Nat) (n : Int) (s : S3), s.st.length = p.blks.length → n.toNat < p.blks.length → s.look n = 0 → s.zeros ≤ f → rI p (f + 1) n s = rI p f n s := by
 intro f
 induction f with
 | zero => intro n s hl hn h0 hz; have := zeros_enter s n (by omega) h0; omega
 | succ f ih =>
  intro n s hl hn h0 hz
  rw [rI_succ p (f + 1), rI_succ p f]
  congr 1
  have hz1 := zeros_enter s n (by omega) h0
  have key : ∀ (l : List Int) (s : S3), (∀ t ∈ l, 0 ≤ t ∧ t < p.blks.length) → s.st.length = p.blks.length → s.zeros ≤ f → l.foldl (hI p (f + 1) n) s = l.foldl (hI p f n) s := by
   intro l
   induction l with
   | nil => intro s _ _ _; rfl
   | cons t l ihl =>
    intro s hin hsl hsz
    have ht := hin t (List.mem_cons_self)
    rw [List.foldl_cons, List.foldl_cons]
    have e : hI p (f + 1) n s t = hI p f n s t := by
     unfold hI
     split
     ·rfl
     ·split
      ·exact ih t s hsl (by omega) ‹_› hsz
      ·rfl
    rw [e]
    exact ihl _ (fun x hx => hin x (List.mem_cons_of_mem _ hx)) (by rw [hI_len]; exact hsl) (Nat.le_trans (hI_zeros _ _ _ _ _) hsz)
  exact key _ _ (fun t ht => outsP_mem ht) (by rw [enter_len]; exact hl) (by omega)

/-- where a walk stands: a block, the ways on that are left, and how these lie in memory -/
structure Kt where
 n : Int
 l : List Int
 v : Value
def gK (p : Pr) (f : Nat) (k : Kt) (s : S3) : S3 := (k.l.foldl (hI p f k.n) s).leave k.n
/-- what comes of a stack -/
def contD (p : Pr) (f : Nat) (S : List Kt) (s : S3) : S3 := S.foldr (gK p f) s
theorem contD_leave (p : Pr) (f : Nat) (S : List Kt) (n : Int) (v : Value) (s : S3) : contD p f (S ++ [⟨n, [], v⟩]) s = contD p f S (s.leave n) := by
 unfold contD; rw [List.foldr_append]; rfl
theorem contD_step (p : Pr) (f : Nat) (S : List Kt) (n t : Int) (l : List Int) (v v' : Value) (s : S3) : contD p f (S ++ [⟨n, t :: l, v⟩]) s = contD p f (S ++ [⟨n, l, v'⟩]) (hI p f n s t) := by
 unfold contD; rw [List.foldr_append, List.foldr_append]; rfl
theorem contD_push (p : Pr) (f : Nat) (S : List Kt) (t : Int) (v : Value) (s : S3) (hl : s.st.length = p.blks.length) (hn : t.toNat < p.blks.length) (h0 : s.look t = 0) (hz : s.zeros ≤ f) : contD p f S (rI p f t s) = contD p f (S ++ [⟨t, outsP p t.toNat, v⟩]) (s.enter t) := by
 unfold contD
 rw [List.foldr_append, ← rI_fuel p f t s hl hn h0 hz, rI_succ]
 rfl
/-- how much there is left to do -/
def todo (S : List Kt) (s : S3) : Nat := (S.map fun k => k.l.length + 1).sum + 4 * s.zeros
theorem todo_leave (S : List Kt) (n : Int) (v : Value) (s : S3) : todo S (s.leave n) < todo (S ++ [⟨n, [], v⟩]) s := by
 have := zeros_leave_le s n
 unfold todo
 simp
 omega
theorem todo_old (S : List Kt) (n t : Int) (l : List Int) (v v' : Value) (s s' : S3) (h : s'.zeros = s.zeros) : todo (S ++ [⟨n, l, v'⟩]) s' < todo (S ++ [⟨n, t :: l, v⟩]) s := by
 unfold todo
 simp
 omega
theorem outsP_len (p : Pr) (n : Nat) : (outsP p n).length ≤ 2 := Nat.le_trans (List.length_filter_le _ _) (outsB_len _)
theorem todo_new (p : Pr) (S : List Kt) (n t : Int) (l : List Int) (v v' v2 : Value) (s : S3) (hn : t.toNat < s.st.length) (h0 : s.look t = 0) : todo (S ++ [⟨n, l, v'⟩] ++ [⟨t, outsP p t.toNat, v2⟩]) (s.enter t) < todo (S ++ [⟨n, t :: l, v⟩]) s := by
 have := zeros_enter s t hn h0
 have := outsP_len p t.toNat
 unfold todo
 simp
 omega
end Go.Proofs.Ytmcddolkpcgddaa

set_option linter.all false
namespace Go.Proofs.Ytmcddolkpcgddaa
open Go.ChangeShapes Go.WideShapes Go.ChangeAt Go.RowKit
set_option maxHeartbeats 400000
set_option maxRecDepth 10000

/-- two rows of different types lie in different blocks -/
theorem rows_ne {w : World} {B B' s s' n n' : Nat} {e e' : TypeId} {v v' : Value} {xs xs' : List Value} (h : w.ownsRow B e s v n xs) (h' : w.ownsRow B' e' s' v' n' xs') (he : e ≠ e') : v.ownBlock = none ∨ v.ownBlock ≠ v'.ownBlock := by
 obtain ⟨-, ⟨rfl, -⟩ | ⟨g, cap, cur, rfl, -, hg, -⟩⟩ := h
 ·exact .inl rfl
 ·obtain ⟨-, ⟨rfl, -⟩ | ⟨g', cap', cur', rfl, -, hg', -⟩⟩ := h'
  ·exact .inr (by simp [Value.ownBlock])
  ·refine .inr fun e2 => he ?_
   simp only [Value.ownBlock, Option.some.injEq] at e2
   subst e2
   rw [hg] at hg'
   simp at hg'
   exact hg'.2
/-- a row from block B on is not in a block below B -/
theorem row_far {w : World} {B s n g : Nat} {e : TypeId} {v : Value} {xs : List Value} (h : w.ownsRow B e s v n xs) (hg : g < B) : v.ownBlock ≠ some g := fun e => by
 have := (h.lt g e).1
 omega
/-- the row of a value after a step: as it was, or new -/
def NewB (w : World) (v v' : Value) : Prop := v'.ownBlock = v.ownBlock ∨ ∃ h, w.heap.size ≤ h ∧ v'.ownBlock = some h
theorem NewB.refl (w : World) (v : Value) : NewB w v v := .inl rfl
/-- a list that can be read, in no block that the walk writes -/
def OutsAt (w : World) (B : Nat) (ov bv tv v : Value) (l : List Int) : Prop :=
 ∃ a c, v = .slice a l.length c ∧ l.length ≤ c ∧ c ≤ maxLen ∧ ∀ i, i < l.length → ∃ b o, a = some ⟨b, o, none⟩ ∧ B ≤ b ∧ ov.ownBlock ≠ some b ∧ bv.ownBlock ≠ some b ∧ tv.ownBlock ≠ some b ∧ w.cell? ⟨b, o + i, none⟩ = some (.int .i64 (l.getD i 0))
theorem OutsAt.kept {w w' : World} {B : Nat} {ov bv tv v ov' bv' tv' : Value} {l : List Int} {row : Option Nat} (h : OutsAt w B ov bv tv v l) (hg : w.grownBy w' row)
  (hr : ∀ b, row = some b → ov.ownBlock = some b ∨ bv.ownBlock = some b ∨ tv.ownBlock = some b ∨ b < B) (n1 : NewB w ov ov') (n2 : NewB w bv bv') (n3 : NewB w tv tv') : OutsAt w' B ov' bv' tv' v l := by
 obtain ⟨a, c, h1, h2, h3, h4⟩ := h
 refine ⟨a, c, h1, h2, h3, fun i hi => ?_⟩
 obtain ⟨b, o, e, hB, k1, k2, k3, hc⟩ := h4 i hi
 have hb : b < w.heap.size := World.block_lt_of_cell? w _ hc
 have far : ∀ x x' : Value, x.ownBlock ≠ some b → NewB w x x' → x'.ownBlock ≠ some b := fun x x' hx hn => by
  rcases hn with e | ⟨k, hk, e⟩
  ·rw [e]; exact hx
  ·rw [e]; intro e2; simp only [Option.some.injEq] at e2; omega
 refine ⟨b, o, e, hB, far _ _ k1 n1, far _ _ k2 n2, far _ _ k3 n3, hg.cell hc fun e2 => ?_⟩
 rcases hr b e2.symm with h | h | h | h
 ·exact k1 h
 ·exact k2 h
 ·exact k3 h
 ·omega

def pairsV (l : List (Int × Int)) : List Value := l.flatMap fun x => [.int .i64 x.1, .int .i64 x.2]
def stkV (S : List Kt) : List Value := S.flatMap fun k => [.int .i64 k.n, k.v]
theorem stkV_len (S : List Kt) : (stkV S).length = S.length * 2 := by
 unfold stkV
 induction S with
 | nil => rfl
 | cons k S ih => rw [List.flatMap_cons, List.length_append, ih]; simp; omega
theorem pairsV_snoc (l : List (Int × Int)) (a b : Int) : pairsV (l ++ [(a, b)]) = pairsV l ++ [.int .i64 a, .int .i64 b] := by simp [pairsV, List.flatMap_append]
theorem stkV_snoc (S : List Kt) (k : Kt) : stkV (S ++ [k]) = stkV S ++ [.int .i64 k.n, k.v] := by simp [stkV, List.flatMap_append]
/-- a walk in memory: the struct at block bw (its procedure's cells are hd), the states at block bs; rows of its own from block B on -/
structure WM (wp w : World) (bw bs B n : Nat) (hd : List Value) (s : S3) (ov bv tv : Value) (S : List Kt) : Prop where
 wk : w.ownsRow 0 165 9 (.slice (some ⟨bw, 0, none⟩) 1 1) 1 (hd ++ [.slice (some ⟨bs, 0, none⟩) n n, ov, bv])
 st : w.ownsRow 0 3 1 (.slice (some ⟨bs, 0, none⟩) n n) n (s.st.map (Value.int .i64))
 ord : w.ownsRow B 3 1 ov s.ord.length (s.ord.map (Value.int .i64))
 back : w.ownsRow B 197 2 bv s.back.length (pairsV s.back)
 stk : w.ownsRow B 194 2 tv S.length (stkV S)
 outs : ∀ k ∈ S, OutsAt w B ov bv tv k.v k.l
 below : Below wp.heap.size wp w
 hd6 : hd.length = 6
 pw : wp.heap.size ≤ bw
 ps : wp.heap.size ≤ bs
 bwB : bw < B
 bsB : bs < B
 Bw : B ≤ w.heap.size
theorem grown_belG {B : Nat} {w0 w w' : World} {row : Option Nat} (h : Below B w0 w) (hB : B ≤ w.heap.size) (hg : w.grownBy w' row) (hr : ∀ b, row = some b → B ≤ b) : Below B w0 w' :=
 ⟨hg.os.trans h.os, hg.tape.trans h.tape, hg.output.trans h.output, Nat.le_trans h.size hg.size, fun k hk => (hg.block k (by omega) (fun e => by have := hr k e.symm; omega)).trans (h.block k hk)⟩
section
variable {wp w : World} {bw bs B n : Nat} {hd : List Value} {s : S3} {ov bv tv : Value} {S : List Kt}
theorem WM.pB (h : WM wp w bw bs B n hd s ov bv tv S) : wp.heap.size ≤ B := Nat.le_trans h.pw (Nat.le_of_lt h.bwB)
theorem WM.len (h : WM wp w bw bs B n hd s ov bv tv S) : s.st.length = n := by simpa using h.st.1
theorem WM.bne (h : WM wp w bw bs B n hd s ov bv tv S) : bw ≠ bs := fun e => by
 rcases rows_ne h.wk h.st (by decide) with h | h
 ·simp [Value.ownBlock] at h
 ·simp [Value.ownBlock, e] at h
/-- nothing but new blocks -/
theorem WM.grow {w' : World} (h : WM wp w bw bs B n hd s ov bv tv S) (hb : Below w.heap.size w w') : WM wp w' bw bs B n hd s ov bv tv S := by
 have hg : w.grownBy w' none := ⟨hb.os, hb.tape, hb.output, hb.size, fun k hk _ => hb.block k hk⟩
 have nn : ∀ v : Value, v.ownBlock = none ∨ v.ownBlock ≠ none := fun v => by cases v.ownBlock <;> simp
 exact ⟨h.wk.kept hg (nn _), h.st.kept hg (nn _), h.ord.kept hg (nn _), h.back.kept hg (nn _), h.stk.kept hg (nn _), fun k hk => (h.outs k hk).kept hg (fun b e => by cases e) (.refl _ _) (.refl _ _) (.refl _ _),
  grown_belG h.below (Nat.le_trans h.pB h.Bw) hg (fun b e => by cases e), h.hd6, h.pw, h.ps, h.bwB, h.bsB, Nat.le_trans h.Bw hb.size⟩
theorem ne_of {v : Value} {g : Nat} (h : v.ownBlock ≠ some g) : v.ownBlock = none ∨ v.ownBlock ≠ some g := .inr h
/-- a block's state is stored -/
theorem WM.setSt (h : WM wp w bw bs B n hd s ov bv tv S) (k : Nat) (x : Int) : WM wp (w.setCell ⟨bs, k, none⟩ (.int .i64 x)) bw bs B n hd { s with st := s.st.set k x } ov bv tv S := by
 obtain ⟨h1, hg⟩ := h.st.stored k (.int .i64 x)
 refine ⟨h.wk.kept hg (.inr (by simp [Value.ownBlock, h.bne])), by rw [List.map_set]; exact h1, h.ord.kept hg (ne_of (row_far h.ord h.bsB)), h.back.kept hg (ne_of (row_far h.back h.bsB)), h.stk.kept hg (ne_of (row_far h.stk h.bsB)),
  fun k hk => (h.outs k hk).kept hg (fun b e => ?_) (.refl _ _) (.refl _ _) (.refl _ _), grown_belG h.below (Nat.le_trans h.pB h.Bw) hg (fun b e => ?_), h.hd6, h.pw, h.ps, h.bwB, h.bsB, by simpa using h.Bw⟩
 ·simp only [Option.some.injEq] at e; subst e; exact .inr (.inr (.inr h.bsB))
 ·simp only [Option.some.injEq] at e; subst e; exact h.ps
theorem row_or {w : World} {v v' : Value} (h : v'.ownBlock = v.ownBlock ∨ v'.ownBlock = some w.heap.size) : NewB w v v' := h.imp id fun e => ⟨_, Nat.le_refl _, e⟩
/-- one more block in the order -/
theorem WM.order {w1 : World} {ov' : Value} {x : Int} (h : WM wp w bw bs B n hd s ov bv tv S) (hg : w.grownBy w1 ov.ownBlock) (ho : w1.ownsRow B 3 1 ov' (s.ord.length + 1) (s.ord.map (Value.int .i64) ++ [.int .i64 x])) (hat : ov'.ownBlock = ov.ownBlock ∨ ov'.ownBlock = some w.heap.size) :
  WM wp (w1.setCell ⟨bw, 7, none⟩ ov') bw bs B n hd { s with ord := s.ord ++ [x] } ov' bv tv S := by
 have hbw : bw < w.heap.size := Nat.lt_of_lt_of_le h.bwB h.Bw
 have fr : ∀ b, ov.ownBlock = some b → B ≤ b := fun b e => (h.ord.lt b e).1
 have wk1 := h.wk.kept hg (.inr (fun e => by have := fr bw e.symm; have := h.bwB; omega))
 obtain ⟨wk2, hg2⟩ := wk1.stored 7 ov'
 have e7 : (hd ++ [Value.slice (some ⟨bs, 0, none⟩) n n, ov, bv]).set 7 ov' = hd ++ [.slice (some ⟨bs, 0, none⟩) n n, ov', bv] := by
  rw [List.set_append_right _ _ (by rw [h.hd6]; decide), h.hd6]; rfl
 rw [e7] at wk2
 have hB1 := Nat.le_trans h.Bw hg.size
 have k2 : ∀ {e s n v xs}, w1.ownsRow B e s v n xs → (w1.setCell ⟨bw, 7, none⟩ ov').ownsRow B e s v n xs := fun hr => hr.kept hg2 (ne_of (row_far hr h.bwB))
 refine ⟨wk2, (h.st.kept hg (.inr (fun e => by have := fr bs e.symm; have := h.bsB; omega))).kept hg2 (.inr (by simp [Value.ownBlock, Ne.symm h.bne])), by simpa using k2 ho, k2 (h.back.kept hg (rows_ne h.back h.ord (by decide))),
  k2 (h.stk.kept hg (rows_ne h.stk h.ord (by decide))), fun k hk => ((h.outs k hk).kept hg (fun b e => .inl e) (row_or hat) (.refl _ _) (.refl _ _)).kept hg2 (fun b e => ?_) (.refl _ _) (.refl _ _) (.refl _ _),
  grown_belG (grown_belG h.below (Nat.le_trans h.pB h.Bw) hg (fun b e => Nat.le_trans h.pB (fr b e))) (Nat.le_trans h.pB hB1) hg2 (fun b e => ?_), h.hd6, h.pw, h.ps, h.bwB, h.bsB, by simpa using hB1⟩
 ·simp only [Option.some.injEq] at e; subst e; exact .inr (.inr (.inr h.bwB))
 ·simp only [Option.some.injEq] at e; subst e; exact h.pw
/-- one more end that leads back -/
theorem WM.backs {w1 : World} {bv' : Value} {x y : Int} (h : WM wp w bw bs B n hd s ov bv tv S) (hg : w.grownBy w1 bv.ownBlock) (ho : w1.ownsRow B 197 2 bv' (s.back.length + 1) (pairsV s.back ++ [.int .i64 x, .int .i64 y])) (hat : bv'.ownBlock = bv.ownBlock ∨ bv'.ownBlock = some w.heap.size) :
  WM wp (w1.setCell ⟨bw, 8, none⟩ bv') bw bs B n hd (s.loop x y) ov bv' tv S := by
 have fr : ∀ b, bv.ownBlock = some b → B ≤ b := fun b e => (h.back.lt b e).1
 have wk1 := h.wk.kept hg (.inr (fun e => by have := fr bw e.symm; have := h.bwB; omega))
 obtain ⟨wk2, hg2⟩ := wk1.stored 8 bv'
 have e7 : (hd ++ [Value.slice (some ⟨bs, 0, none⟩) n n, ov, bv]).set 8 bv' = hd ++ [.slice (some ⟨bs, 0, none⟩) n n, ov, bv'] := by
  rw [List.set_append_right _ _ (by rw [h.hd6]; decide), h.hd6]; rfl
 rw [e7] at wk2
 have hB1 := Nat.le_trans h.Bw hg.size
 have k2 : ∀ {e s n v xs}, w1.ownsRow B e s v n xs → (w1.setCell ⟨bw, 8, none⟩ bv').ownsRow B e s v n xs := fun hr => hr.kept hg2 (ne_of (row_far hr h.bwB))
 refine ⟨wk2, (h.st.kept hg (.inr (fun e => by have := fr bs e.symm; have := h.bsB; omega))).kept hg2 (.inr (by simp [Value.ownBlock, Ne.symm h.bne])), k2 (h.ord.kept hg (rows_ne h.ord h.back (by decide))), by unfold S3.loop; rw [pairsV_snoc]; simpa using k2 ho,
  k2 (h.stk.kept hg (rows_ne h.stk h.back (by decide))), fun k hk => ((h.outs k hk).kept hg (fun b e => .inr (.inl e)) (.refl _ _) (row_or hat) (.refl _ _)).kept hg2 (fun b e => ?_) (.refl _ _) (.refl _ _) (.refl _ _),
  grown_belG (grown_belG h.below (Nat.le_trans h.pB h.Bw) hg (fun b e => Nat.le_trans h.pB (fr b e))) (Nat.le_trans h.pB hB1) hg2 (fun b e => ?_), h.hd6, h.pw, h.ps, h.bwB, h.bsB, by simpa using hB1⟩
 ·simp only [Option.some.injEq] at e; subst e; exact .inr (.inr (.inr h.bwB))
 ·simp only [Option.some.injEq] at e; subst e; exact h.pw
/-- one more block on the stack -/
theorem WM.push {w1 : World} {tv' : Value} {k : Kt} (h : WM wp w bw bs B n hd s ov bv tv S) (hk : OutsAt w B ov bv tv k.v k.l) (hg : w.grownBy w1 tv.ownBlock) (ho : w1.ownsRow B 194 2 tv' (S.length + 1) (stkV S ++ [.int .i64 k.n, k.v])) (hat : tv'.ownBlock = tv.ownBlock ∨ tv'.ownBlock = some w.heap.size) :
  WM wp w1 bw bs B n hd s ov bv tv' (S ++ [k]) := by
 have fr : ∀ b, tv.ownBlock = some b → B ≤ b := fun b e => (h.stk.lt b e).1
 have hB1 := Nat.le_trans h.Bw hg.size
 have ko : ∀ k : Kt, OutsAt w B ov bv tv k.v k.l → OutsAt w1 B ov bv tv' k.v k.l := fun k hk => hk.kept hg (fun b e => .inr (.inr (.inl e))) (.refl _ _) (.refl _ _) (row_or hat)
 refine ⟨h.wk.kept hg (.inr (fun e => by have := fr bw e.symm; have := h.bwB; omega)), h.st.kept hg (.inr (fun e => by have := fr bs e.symm; have := h.bsB; omega)), h.ord.kept hg (rows_ne h.ord h.stk (by decide)), h.back.kept hg (rows_ne h.back h.stk (by decide)),
  by rw [stkV_snoc]; simpa using ho, fun k' hk' => ?_, grown_belG h.below (Nat.le_trans h.pB h.Bw) hg (fun b e => Nat.le_trans h.pB (fr b e)), h.hd6, h.pw, h.ps, h.bwB, h.bsB, hB1⟩
 rcases List.mem_append.1 hk' with hk' | hk'
 ·exact ko _ (h.outs _ hk')
 ·rw [List.mem_singleton.1 hk']; exact ko _ hk
/-- the topmost block of the stack is taken off -/
theorem WM.pop {k : Kt} {gt c : Nat} (h : WM wp w bw bs B n hd s ov bv (.slice (some ⟨gt, 0, none⟩) (S.length + 1) c) (S ++ [k])) : WM wp w bw bs B n hd s ov bv (.slice (some ⟨gt, 0, none⟩) S.length c) S := by
 have hs := h.stk
 refine ⟨h.wk, h.st, h.ord, h.back, ?_, fun k hk => h.outs k (List.mem_append_left _ hk), h.below, h.hd6, h.pw, h.ps, h.bwB, h.bsB, h.Bw⟩
 obtain ⟨h1, ⟨h2, -⟩ | ⟨g, cap, cur, h3, hb, hgg, hnc, hcm, hcs, ht⟩⟩ := hs
 ·simp at h2
 ·simp only [Value.slice.injEq, Option.some.injEq, Addr.mk.injEq] at h3
  obtain ⟨⟨rfl, -⟩, -, rfl⟩ := h3
  refine ⟨stkV_len S, .inr ⟨gt, c, cur, rfl, hb, hgg, by simp at hnc; omega, hcm, hcs, ?_⟩⟩
  rw [stkV_snoc] at ht
  have := congrArg (List.take (S.length * 2)) ht
  rw [List.take_take, List.take_append_of_le_length (by rw [stkV_len]; exact Nat.le_refl _), List.take_of_length_le (l := stkV S) (by rw [stkV_len]; exact Nat.le_refl _)] at this
  simpa [Nat.min_eq_left, Nat.mul_le_mul_right] using this
/-- the ways on that are left of the topmost block are stored -/
theorem WM.setTop {x : Int} {l l' : List Int} {v v' : Value} {gt c : Nat} (h : WM wp w bw bs B n hd s ov bv (.slice (some ⟨gt, 0, none⟩) (S.length + 1) c) (S ++ [⟨x, l, v⟩])) (hk : OutsAt w B ov bv (.slice (some ⟨gt, 0, none⟩) (S.length + 1) c) v' l') :
  WM wp (w.setCell ⟨gt, S.length * 2 + 1, none⟩ v') bw bs B n hd s ov bv (.slice (some ⟨gt, 0, none⟩) (S.length + 1) c) (S ++ [⟨x, l', v'⟩]) := by
 have hs := h.stk
 rw [List.length_append, List.length_singleton] at hs
 obtain ⟨hs1, hg⟩ := hs.stored (S.length * 2 + 1) v'
 have hBg : B ≤ gt := (hs.lt gt rfl).1
 have e : (stkV (S ++ [⟨x, l, v⟩])).set (S.length * 2 + 1) v' = stkV (S ++ [⟨x, l', v'⟩]) := by
  rw [stkV_snoc, stkV_snoc, List.set_append_right _ _ (by rw [stkV_len]; omega), stkV_len]
  simp
 rw [e] at hs1
 have ko : ∀ {v l}, OutsAt w B ov bv (.slice (some ⟨gt, 0, none⟩) (S.length + 1) c) v l → OutsAt (w.setCell ⟨gt, S.length * 2 + 1, none⟩ v') B ov bv (.slice (some ⟨gt, 0, none⟩) (S.length + 1) c) v l :=
  fun hk => hk.kept hg (fun b e => .inr (.inr (.inl e))) (.refl _ _) (.refl _ _) (.refl _ _)
 refine ⟨h.wk.kept hg (.inr (by have := h.bwB; simp [Value.ownBlock]; omega)), h.st.kept hg (.inr (by have := h.bsB; simp [Value.ownBlock]; omega)), h.ord.kept hg (rows_ne h.ord h.stk (by decide)), h.back.kept hg (rows_ne h.back h.stk (by decide)),
  by rw [List.length_append, List.length_singleton]; exact hs1, fun k' hk' => ?_, grown_belG h.below (Nat.le_trans h.pB h.Bw) hg (fun b e => ?_), h.hd6, h.pw, h.ps, h.bwB, h.bsB, by simpa using h.Bw⟩
 ·rcases List.mem_append.1 hk' with hk' | hk'
  ·exact ko (h.outs _ (List.mem_append_left _ hk'))
  ·rw [List.mem_singleton.1 hk']; exact ko hk
 ·simp only [Option.some.injEq] at e; subst e; exact Nat.le_trans h.pB hBg
end
end Go.Proofs.Ytmcddolkpcgddaa
