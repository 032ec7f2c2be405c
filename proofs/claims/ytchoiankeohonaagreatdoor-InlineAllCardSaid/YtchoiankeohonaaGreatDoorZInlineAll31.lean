/-
 The marking of live registers finds what going all ways on finds (plain lists, no program).
-/
import Derived.Test.YtchoiankeohonaaGreatDoorZInlineAll30
set_option linter.all false
namespace Go.Proofs.YtchoiankeohonaaGreatDoor
open Go Go.RowKit
/-- live at the start of a block, by all ways on -/
def LvS (p : Pr) (r : Int) (n : Nat) : Prop :=
 ∀ S : Nat → Prop, (∀ n, withinB (p.blks.getD n default) 0 r = 1 → S n) → (∀ n t, withinB (p.blks.getD n default) 0 r = 0 → t ∈ outsP p n → S t.toNat → S n) → S n
theorem LvS.here {p : Pr} {r : Int} (n : Nat) (h : withinB (p.blks.getD n default) 0 r = 1) : LvS p r n := fun _ h1 _ => h1 n h
theorem LvS.on {p : Pr} {r : Int} (n : Nat) (t : Int) (h : withinB (p.blks.getD n default) 0 r = 0) (ht : t ∈ outsP p n) (h' : LvS p r t.toNat) : LvS p r n := fun S h1 h2 => h2 n t h ht (h' S h1 h2)
theorem LvS.parts {p : Pr} {r : Int} {n : Nat} (h : LvS p r n) : withinB (p.blks.getD n default) 0 r = 1 ∨ withinB (p.blks.getD n default) 0 r = 0 ∧ ∃ t ∈ outsP p n, LvS p r t.toNat :=
 (h (fun n => LvS p r n ∧ (withinB (p.blks.getD n default) 0 r = 1 ∨ withinB (p.blks.getD n default) 0 r = 0 ∧ ∃ t ∈ outsP p n, LvS p r t.toNat)) (fun n h => ⟨.here n h, .inl h⟩) (fun n t h ht ih => ⟨.on n t h ht ih.1, .inr ⟨h, t, ht, ih.1⟩⟩)).2
theorem lvQ_sound (p : Pr) (r : Int) : ∀ (f : Nat) (seen : List Bool) (q : List Int), lvQ p r f seen q = true → ∃ t ∈ q, LvS p r t.toNat := by
 intro f
 induction f with
 | zero => intro seen q h; cases h
 | succ f ih =>
  intro seen q h
  cases q with
  | nil => cases h
  | cons b q =>
   unfold lvQ at h
   split at h
   ·obtain ⟨t, ht, hl⟩ := ih _ _ h
    exact ⟨t, List.mem_cons_of_mem _ ht, hl⟩
   ·split at h
    ·exact ⟨b, List.mem_cons_self, .here _ ‹_›⟩
    ·split at h
     ·obtain ⟨t, ht, hl⟩ := ih _ _ h
      rcases List.mem_append.1 ht with ht | ht
      ·exact ⟨t, List.mem_cons_of_mem _ ht, hl⟩
      ·exact ⟨b, List.mem_cons_self, .on _ t ‹_› ht hl⟩
     ·obtain ⟨t, ht, hl⟩ := ih _ _ h
      exact ⟨t, List.mem_cons_of_mem _ ht, hl⟩
theorem getD_setb (l : List Bool) (i j : Nat) (h : i < l.length) : (l.set i true).getD j false = if j = i then true else l.getD j false := by
 simp only [List.getD, List.getElem?_set]
 by_cases e : i = j
 ·subst e; simp [h]
 ·simp [e, Ne.symm e]
theorem outsP_two (p : Pr) (n : Nat) : (outsP p n).length ≤ 2 := Nat.le_trans (List.length_filter_le _ _) (by unfold outsB; split <;> (try split) <;> simp)
/-- where the search finds nothing, there is a set of blocks that the ways on do not leave -/
theorem lvQ_closed (p : Pr) (r : Int) : ∀ (f : Nat) (seen : List Bool) (q : List Int), lvQ p r f seen q = false → seen.length = p.blks.length → q.length + 3 * seen.count false ≤ f → (∀ t ∈ q, 0 ≤ t ∧ t < p.blks.length) →
  (∀ n, seen.getD n false = true → withinB (p.blks.getD n default) 0 r ≠ 1 ∧ (withinB (p.blks.getD n default) 0 r = 0 → ∀ t ∈ outsP p n, seen.getD t.toNat false = true ∨ t ∈ q)) →
  ∃ S : Nat → Prop, (∀ t ∈ q, S t.toNat) ∧ (∀ n, seen.getD n false = true → S n) ∧ ∀ n, S n → withinB (p.blks.getD n default) 0 r ≠ 1 ∧ (withinB (p.blks.getD n default) 0 r = 0 → ∀ t ∈ outsP p n, S t.toNat) := by
 intro f
 induction f with
 | zero =>
  intro seen q h hl hf hq hs
  have : q = [] := List.eq_nil_of_length_eq_zero (by omega)
  subst this
  refine ⟨fun n => seen.getD n false = true, fun t ht => absurd ht List.not_mem_nil, fun n hn => hn, fun n hn => ⟨(hs n hn).1, fun h0 t ht => ?_⟩⟩
  rcases (hs n hn).2 h0 t ht with h | h
  ·exact h
  ·exact absurd h List.not_mem_nil
 | succ f ih =>
  intro seen q h hl hf hq hs
  cases q with
  | nil =>
   refine ⟨fun n => seen.getD n false = true, fun t ht => absurd ht List.not_mem_nil, fun n hn => hn, fun n hn => ⟨(hs n hn).1, fun h0 t ht => ?_⟩⟩
   rcases (hs n hn).2 h0 t ht with h | h
   ·exact h
   ·exact absurd h List.not_mem_nil
  | cons b q =>
   have hb := hq b List.mem_cons_self
   have hq' : ∀ t ∈ q, 0 ≤ t ∧ t < p.blks.length := fun t ht => hq t (List.mem_cons_of_mem _ ht)
   simp only [List.length_cons] at hf
   unfold lvQ at h
   split at h
   ·rename_i hsb
    obtain ⟨S, h1, h2, h3⟩ := ih seen q h hl (by omega) hq' (fun n hn => ⟨(hs n hn).1, fun h0 t ht => by
     rcases (hs n hn).2 h0 t ht with k | k
     ·exact .inl k
     ·rcases List.mem_cons.1 k with rfl | k
      ·exact .inl hsb
      ·exact .inr k⟩)
    refine ⟨S, fun t ht => ?_, h2, h3⟩
    rcases List.mem_cons.1 ht with rfl | ht
    ·exact h2 _ hsb
    ·exact h1 t ht
   ·rename_i hsb
    have hsb' : seen.getD b.toNat false = false := by simpa using hsb
    have hlt : b.toNat < seen.length := by omega
    have hc := count_set_false seen b.toNat hlt hsb'
    split at h
    ·cases h
    ·rename_i hw1
     split at h
     ·rename_i hw0
      obtain ⟨S, h1, h2, h3⟩ := ih (seen.set b.toNat true) (q ++ outsP p b.toNat) h (by simpa using hl) (by have := outsP_two p b.toNat; rw [List.length_append]; omega) (fun t ht => by
        rcases List.mem_append.1 ht with ht | ht
        ·exact hq' t ht
        ·exact outsP_mem ht) (fun n hn => by
        rw [getD_setb _ _ _ hlt] at hn
        by_cases e : n = b.toNat
        ·subst e; exact ⟨hw1, fun _ t ht => .inr (List.mem_append_right _ ht)⟩
        ·rw [if_neg e] at hn
         refine ⟨(hs n hn).1, fun h0 t ht => ?_⟩
         rw [getD_setb _ _ _ hlt]
         rcases (hs n hn).2 h0 t ht with k | k
         ·left; split <;> first | rfl | exact k
         ·rcases List.mem_cons.1 k with rfl | k
          ·left; rw [if_pos rfl]
          ·exact .inr (List.mem_append_left _ k))
      refine ⟨S, fun t ht => ?_, fun n hn => h2 n ?_, h3⟩
      ·rcases List.mem_cons.1 ht with rfl | ht
       ·exact h2 _ (by rw [getD_setb _ _ _ hlt, if_pos rfl])
       ·exact h1 t (List.mem_append_left _ ht)
      ·rw [getD_setb _ _ _ hlt]; split <;> first | rfl | exact hn
     ·rename_i hw0
      obtain ⟨S, h1, h2, h3⟩ := ih (seen.set b.toNat true) q h (by simpa using hl) (by omega) hq' (fun n hn => by
        rw [getD_setb _ _ _ hlt] at hn
        by_cases e : n = b.toNat
        ·subst e; exact ⟨hw1, fun k => absurd k hw0⟩
        ·rw [if_neg e] at hn
         refine ⟨(hs n hn).1, fun h0 t ht => ?_⟩
         rw [getD_setb _ _ _ hlt]
         rcases (hs n hn).2 h0 t ht with k | k
         ·left; split <;> first | rfl | exact k
         ·rcases List.mem_cons.1 k with rfl | k
          ·left; rw [if_pos rfl]
          ·exact .inr k)
      refine ⟨S, fun t ht => ?_, fun n hn => h2 n ?_, h3⟩
      ·rcases List.mem_cons.1 ht with rfl | ht
       ·exact h2 _ (by rw [getD_setb _ _ _ hlt, if_pos rfl])
       ·exact h1 t ht
      ·rw [getD_setb _ _ _ hlt]; split <;> first | rfl | exact hn
theorem not_LvS {p : Pr} {r : Int} {S : Nat → Prop} (h : ∀ n, S n → withinB (p.blks.getD n default) 0 r ≠ 1 ∧ (withinB (p.blks.getD n default) 0 r = 0 → ∀ t ∈ outsP p n, S t.toNat)) {n : Nat} (hl : LvS p r n) : ¬ S n := by
 exact hl (fun n => ¬ S n) (fun n hw hs => (h n hs).1 hw) (fun n t hw ht ih hs => ih ((h n hs).2 hw t ht))
/-- the search tells whether a way on leads to a read -/
theorem lvQ_iff (p : Pr) (r : Int) (n : Nat) : lvQ p r (2 + 3 * p.blks.length) (List.replicate p.blks.length false) (outsP p n) = true ↔ ∃ t ∈ outsP p n, LvS p r t.toNat := by
 constructor
 ·exact lvQ_sound p r _ _ _
 ·rintro ⟨t, ht, hl⟩
  cases hq : lvQ p r (2 + 3 * p.blks.length) (List.replicate p.blks.length false) (outsP p n) with
  | true => rfl
  | false =>
   obtain ⟨S, h1, -, h3⟩ := lvQ_closed p r _ _ _ hq (by simp) (by have := outsP_two p n; simp [List.count_replicate_self]; omega) (fun t ht => outsP_mem ht) (fun k hk => by
    simp only [List.getD, List.getElem?_replicate] at hk
    split at hk <;> cases hk)
   exact absurd (h1 t ht) (not_LvS h3 hl)
theorem withinI_cases (r : Int) (l : List In) : withinI r l = 0 ∨ withinI r l = 1 ∨ withinI r l = 2 := by
 induction l with
 | nil => exact .inl rfl
 | cons i l ih => unfold withinI; split; exact .inr (.inl rfl); split; exact .inr (.inr rfl); exact ih
theorem withinB_cases (b : Bk) (k : Nat) (r : Int) : withinB b k r = 0 ∨ withinB b k r = 1 ∨ withinB b k r = 2 := by
 unfold withinB
 split
 ·split; exact .inr (.inl rfl); exact .inl rfl
 ·exact withinI_cases _ _
theorem liveP_iff (p : Pr) (n k : Nat) (r : Int) : liveP p n k r = true ↔ withinB (p.blks.getD n default) k r = 1 ∨ withinB (p.blks.getD n default) k r = 0 ∧ ∃ t ∈ outsP p n, LvS p r t.toNat := by
 unfold liveP
 rcases withinB_cases (p.blks.getD n default) k r with h | h | h
 ·rw [if_neg (by omega), lvQ_iff, h]; simp
 ·rw [if_pos (by omega), h]; simp
 ·rw [if_pos (by omega), h]; simp
theorem liveP_0 (p : Pr) (n : Nat) (r : Int) : liveP p n 0 r = true ↔ LvS p r n := by
 rw [liveP_iff]
 constructor
 ·rintro (h | ⟨h, t, ht, hl⟩)
  ·exact .here _ h
  ·exact .on _ t h ht hl
 ·intro h
  exact h.parts

theorem setB_get (l : List Bool) (x : Int) (is : Bool) (r : Nat) (h : r < l.length) : (setB l x is).getD r false = if x = r then is else l.getD r false := by
 unfold setB
 split
 ·simp only [List.getD, List.getElem?_set]
  by_cases e : x.toNat = r
  ·rw [if_pos e, if_pos (by omega), if_pos (by omega)]; rfl
  ·rw [if_neg e, if_neg (by omega)]
 ·rw [if_neg (by omega)]
theorem marksB_get (l : List Bool) (rs : List Int) (r : Nat) (h : r < l.length) : (marksB l rs).getD r false = (l.getD r false || hasL rs r) := by
 unfold marksB
 induction rs generalizing l with
 | nil => simp [hasL]
 | cons x rs ih =>
  rw [List.foldl_cons, ih _ (by rw [setB_len]; exact h), setB_get _ _ _ _ h]
  unfold hasL
  rw [List.contains_cons]
  by_cases e : x = r
  ·subst e; simp
  ·rw [if_neg e, show ((r : Int) == x) = false from beq_eq_false_iff_ne.2 (Ne.symm e), Bool.false_or]
theorem beforeB_get (l : List Bool) (i : In) (r : Nat) (h : r < l.length) : (beforeB l i).getD r false = (hasL (usesI i) r || (decide (defI i ≠ r) && l.getD r false)) := by
 unfold beforeB
 rw [marksB_get _ _ _ (by rw [setB_len]; exact h), setB_get _ _ _ _ h]
 by_cases e : defI i = r
 ·rw [if_pos e]; simp [e]
 ·rw [if_neg e]; simp [e, Bool.or_comm]
theorem backK_get (l : List Bool) (is : List In) (r : Nat) (h : r < l.length) : (backK l is).getD r false = (decide (withinI r is = 1) || (decide (withinI r is = 0) && l.getD r false)) := by
 induction is with
 | nil => simp [withinI, backK]
 | cons i is ih =>
  have hlen : r < (backK l is).length := by rw [backK_len]; exact h
  rw [show backK l (i :: is) = beforeB (backK l is) i from rfl, beforeB_get _ _ _ hlen, ih]
  rw [show withinI r (i :: is) = if hasL (usesI i) r = true then 1 else if defI i = r then 2 else withinI r is from rfl]
  by_cases e : hasL (usesI i) r = true
  ·rw [if_pos e]; simp [e]
  ·rw [if_neg e]
   by_cases e2 : defI i = r
   ·rw [if_pos e2]; simp [e2, Bool.eq_false_iff.2 e]
   ·rw [if_neg e2]; simp [e2, Bool.eq_false_iff.2 e]
theorem joinB_get (a b : List Bool) (r : Nat) (h : r < a.length) : (joinB a b).getD r false = (a.getD r false || b.getD r false) := by
 unfold joinB; rw [orB_get _ _ _ _ h]; simp [h]
theorem outK_get (li : Tab) (l : List Bool) (ts : List Int) (r : Nat) (h : r < l.length) : (outK li l ts).getD r false = (l.getD r false || ts.any fun t => (li.getD t.toNat []).getD r false) := by
 unfold outK
 induction ts generalizing l with
 | nil => simp
 | cons t ts ih => rw [List.foldl_cons, ih _ (by rw [joinB_len]; exact h), joinB_get _ _ _ h, List.any_cons, Bool.or_assoc]
/-- live ahead of a block's end -/
def LvE (p : Pr) (r : Int) (n : Nat) : Prop := endReads (p.blks.getD n default) r = true ∨ ∃ t ∈ outsP p n, LvS p r t.toNat
theorem withinB_len (b : Bk) (r : Int) : withinB b b.ins.length r = if endReads b r = true then 1 else 0 := by
 unfold withinB; rw [List.drop_length]; simp [withinI]
theorem liveP_end (p : Pr) (n : Nat) (r : Int) : liveP p n (p.blks.getD n default).ins.length r = true ↔ LvE p r n := by
 rw [liveP_iff, withinB_len]
 unfold LvE
 cases endReads (p.blks.getD n default) r <;> simp
theorem withinB_0 (b : Bk) (r : Int) : withinB b 0 r = if withinI r b.ins = 0 then (if endReads b r = true then 1 else 0) else withinI r b.ins := by
 unfold withinB; rw [List.drop_zero]
theorem LvS_iff (p : Pr) (r : Int) (n : Nat) : LvS p r n ↔ withinI r (p.blks.getD n default).ins = 1 ∨ withinI r (p.blks.getD n default).ins = 0 ∧ LvE p r n := by
 rw [← liveP_0, liveP_iff, withinB_0]
 unfold LvE
 rcases withinI_cases r (p.blks.getD n default).ins with h | h | h <;> rw [h] <;> cases endReads (p.blks.getD n default) r <;> simp
/-- every mark stands for a register that is live -/
def SoundT (p : Pr) (s : Lv) : Prop := ∀ n, n < p.blks.length → ∀ r, r < regsN p → ((s.li.getD n []).getD r false = true → LvS p r n) ∧ ((s.lo.getD n []).getD r false = true → LvE p r n)
/-- what the ends read is marked -/
def EndT (p : Pr) (s : Lv) : Prop := ∀ n, n < p.blks.length → ∀ r, r < regsN p → endReads (p.blks.getD n default) r = true → (s.lo.getD n []).getD r false = true
theorem outK_sound {p : Pr} {s : Lv} (ok : LvOk p.blks.length (regsN p) s.li s.lo) (h : SoundT p s) {n r : Nat} (hn : n < p.blks.length) (hr : r < regsN p) (h1 : (outK s.li (s.lo.getD n []) (outsP p n)).getD r false = true) : LvE p r n := by
 rw [outK_get _ _ _ _ (by rw [ok.ro n hn]; exact hr), Bool.or_eq_true, List.any_eq_true] at h1
 rcases h1 with h1 | ⟨t, ht, h1⟩
 ·exact (h n hn r hr).2 h1
 ·exact .inr ⟨t, ht, (h t.toNat (by have := outsP_mem ht; omega) r hr).1 h1⟩
theorem blkStep_sound {p : Pr} {s : Lv} (ok : LvOk p.blks.length (regsN p) s.li s.lo) (h : SoundT p s) (k : Nat) (hk : k < p.blks.length) : SoundT p (blkStep p k s) := by
 intro n hn r hr
 refine ⟨fun h1 => ?_, fun h1 => ?_⟩
 ·have h1 : ((s.li.set k (joinB (s.li.getD k []) (backK (outK s.li (s.lo.getD k []) (outsP p k)) (p.blks.getD k default).ins))).getD n []).getD r false = true := h1
  rw [getD_set] at h1
  split at h1
  ·rename_i e
   obtain ⟨rfl, -⟩ := e
   rw [joinB_get _ _ _ (by rw [ok.ri n hn]; exact hr), Bool.or_eq_true, backK_get _ _ _ (by rw [outK_len, ok.ro n hn]; exact hr)] at h1
   rcases h1 with h1 | h1
   ·exact (h n hn r hr).1 h1
   ·rw [Bool.or_eq_true, Bool.and_eq_true, decide_eq_true_eq, decide_eq_true_eq] at h1
    rw [LvS_iff]
    rcases h1 with h1 | ⟨h1, h2⟩
    ·exact .inl h1
    ·exact .inr ⟨h1, outK_sound ok h hn hr h2⟩
  ·exact (h n hn r hr).1 h1
 ·have h1 : ((s.lo.set k (outK s.li (s.lo.getD k []) (outsP p k))).getD n []).getD r false = true := h1
  rw [getD_set] at h1
  split at h1
  ·rename_i e
   obtain ⟨rfl, -⟩ := e
   exact outK_sound ok h hn hr h1
  ·exact (h n hn r hr).2 h1
theorem blkStep_end {p : Pr} {s : Lv} (ok : LvOk p.blks.length (regsN p) s.li s.lo) (h : EndT p s) (k : Nat) : EndT p (blkStep p k s) := by
 intro n hn r hr he
 show ((s.lo.set k (outK s.li (s.lo.getD k []) (outsP p k))).getD n []).getD r false = true
 rw [getD_set]
 split
 ·rename_i e
  obtain ⟨rfl, -⟩ := e
  rw [outK_get _ _ _ _ (by rw [ok.ro n hn]; exact hr), h n hn r hr he, Bool.true_or]
 ·exact h n hn r hr he
theorem passK_keep {p : Pr} (k : Nat) : ∀ {s : Lv}, k ≤ p.blks.length → LvOk p.blks.length (regsN p) s.li s.lo → SoundT p s → EndT p s → SoundT p (passK p k s) ∧ EndT p (passK p k s) := by
 induction k with
 | zero => intro s _ _ h1 h2; exact ⟨h1, h2⟩
 | succ k ih => intro s hk ok h1 h2; exact ih (by omega) (ok.step (by omega)) (blkStep_sound ok h1 k (by omega)) (blkStep_end ok h2 k)
theorem endedB_get (l : List Bool) (b : Bk) (r : Nat) (h : r < l.length) : (endedB l b).getD r false = (endReads b r || l.getD r false) := by
 unfold endedB endReads
 by_cases e : b.fin = 2 ∨ b.fin = 3
 ·rw [if_pos e, setB_get _ _ _ _ h]
  have : (b.fin == 2 || b.fin == 3) = true := by simpa using e
  rw [this, Bool.true_and]
  by_cases e2 : b.a = r
  ·simp [e2]
  ·simp [e2]
 ·rw [if_neg e]
  have : (b.fin == 2 || b.fin == 3) = false := by simpa using e
  rw [this]; simp
theorem tabE_get' (p : Pr) (n : Nat) (h : n < p.blks.length) : (tabE p p.blks.length).getD n [] = endedB (List.replicate (regsN p) false) (p.blks.getD n default) := by
 simp [tabE, List.getD, h]
theorem lvN_keep (p : Pr) (k : Nat) : SoundT p (lvN p k) ∧ EndT p (lvN p k) := by
 induction k with
 | zero =>
  refine ⟨fun n hn r hr => ⟨fun h => ?_, fun h => ?_⟩, fun n hn r hr he => ?_⟩
  ·have h : ((tab0 p).getD n []).getD r false = true := h
   simp [tab0, List.getD, List.getElem?_replicate, hn, hr] at h
  ·have h : ((tabE p p.blks.length).getD n []).getD r false = true := h
   rw [tabE_get' p n hn, endedB_get _ _ _ (by simpa using hr)] at h
   left
   simpa [List.getD, List.getElem?_replicate, hr] using h
  ·show ((tabE p p.blks.length).getD n []).getD r false = true
   rw [tabE_get' p n hn, endedB_get _ _ _ (by simpa using hr), he]; rfl
 | succ k ih => exact passK_keep (s := ⟨(lvN p k).li, (lvN p k).lo, false⟩) _ (Nat.le_refl _) (lvN_ok p k) ih.1 ih.2
theorem grewB_no {a b : List Bool} {m : Nat} (h : grewB a b m = false) {r : Nat} (hr : r < m) (hb : b.getD r false = true) : a.getD r false = true := by
 unfold grewB at h
 rw [List.any_eq_false] at h
 have := h r (List.mem_range.2 hr)
 rw [hb] at this
 cases e : a.getD r false with
 | true => rfl
 | false => rw [e] at this; simp at this
theorem set_self (t : Tab) (n : Nat) : t.set n (t.getD n []) = t := by
 apply List.ext_getElem (by simp)
 intro i h1 h2
 rw [List.getElem_set]
 split
 ·rename_i e; subst e; simp [List.getD, h2]
 ·rfl
theorem joinB_none {a b : List Bool} (h : grewB a b a.length = false) : joinB a b = a := by
 refine list_ext _ _ (joinB_len _ _) fun i hi => ?_
 rw [joinB_len] at hi
 rw [joinB_get _ _ _ hi]
 cases hb : b.getD i false with
 | false => simp
 | true => rw [grewB_no h hi hb]; rfl
/-- a pass that finds nothing new -/
theorem passK_none {p : Pr} (k : Nat) : ∀ {s : Lv}, k ≤ p.blks.length → LvOk p.blks.length (regsN p) s.li s.lo → (passK p k s).grew = false → s.grew = false ∧ (passK p k s).li = s.li ∧ (∀ n, k ≤ n → (passK p k s).lo.getD n [] = s.lo.getD n []) ∧
  ∀ n, n < k → (passK p k s).lo.getD n [] = outK s.li (s.lo.getD n []) (outsP p n) ∧ grewB (s.li.getD n []) (backK (outK s.li (s.lo.getD n []) (outsP p n)) (p.blks.getD n default).ins) (s.li.getD n []).length = false := by
 induction k with
 | zero => intro s _ _ h; exact ⟨h, rfl, fun n _ => rfl, fun n hn => absurd hn (by omega)⟩
 | succ k ih =>
  intro s hk ok h
  obtain ⟨h1, h2, h3, h4⟩ := ih (s := blkStep p k s) (by omega) (ok.step (by omega)) h
  have h1' : (grewB (s.li.getD k []) (backK (outK s.li (s.lo.getD k []) (outsP p k)) (p.blks.getD k default).ins) (s.li.getD k []).length || s.grew) = false := h1
  rw [Bool.or_eq_false_iff] at h1'
  obtain ⟨g1, g2⟩ := h1'
  have e : (blkStep p k s).li = s.li := by
   show s.li.set k (joinB (s.li.getD k []) _) = s.li
   rw [joinB_none g1, set_self]
  have el : ∀ n, (blkStep p k s).lo.getD n [] = if n = k ∧ k < s.lo.length then outK s.li (s.lo.getD k []) (outsP p k) else s.lo.getD n [] := fun n => getD_set _ _ _ _
  refine ⟨g2, h2.trans e, fun n hn => ?_, fun n hn => ?_⟩
  ·show (passK p k (blkStep p k s)).lo.getD n [] = _
   rw [h3 n (by omega), el, if_neg (by omega)]
  ·show (passK p k (blkStep p k s)).lo.getD n [] = _ ∧ _
   by_cases e2 : n = k
   ·subst e2
    refine ⟨?_, g1⟩
    rw [h3 n (Nat.le_refl _), el, if_pos ⟨rfl, by rw [ok.lenO]; omega⟩]
   ·obtain ⟨a, b⟩ := h4 n (by omega)
    rw [e, el, if_neg (fun h => e2 h.1)] at a b
    exact ⟨a, b⟩
theorem lv_full {p : Pr} {k : Nat} (h : (lvN p k).grew = false) : (∀ n, n < p.blks.length → ∀ r, r < regsN p → LvS p r n → ((lvN p k).li.getD n []).getD r false = true) ∧ ∀ n, n < p.blks.length → ∀ r, r < regsN p → LvE p r n → ((lvN p k).lo.getD n []).getD r false = true := by
 cases k with
 | zero => cases h
 | succ k =>
  have ok := lvN_ok p k
  obtain ⟨-, h2, -, h4⟩ := passK_none (s := ⟨(lvN p k).li, (lvN p k).lo, false⟩) p.blks.length (Nat.le_refl _) ok h
  have hI : (lvN p (k + 1)).li = (lvN p k).li := h2
  have hE := (lvN_keep p k).2
  have up : ∀ n, n < p.blks.length → ∀ r, r < regsN p → (endReads (p.blks.getD n default) r = true ∨ ∃ t ∈ outsP p n, ((lvN p k).li.getD t.toNat []).getD r false = true) → (outK (lvN p k).li ((lvN p k).lo.getD n []) (outsP p n)).getD r false = true := by
   intro n hn r hr hx
   rw [outK_get _ _ _ _ (by rw [ok.ro n hn]; exact hr), Bool.or_eq_true, List.any_eq_true]
   rcases hx with hx | hx
   ·exact .inl (hE n hn r hr hx)
   ·exact .inr hx
  have inn : ∀ n, n < p.blks.length → ∀ r, r < regsN p → (withinI r (p.blks.getD n default).ins = 1 ∨ withinI r (p.blks.getD n default).ins = 0 ∧ (endReads (p.blks.getD n default) r = true ∨ ∃ t ∈ outsP p n, ((lvN p k).li.getD t.toNat []).getD r false = true)) → ((lvN p k).li.getD n []).getD r false = true := by
   intro n hn r hr hx
   refine grewB_no (h4 n hn).2 (by show r < ((lvN p k).li.getD n []).length; rw [ok.ri n hn]; exact hr) ?_
   show (backK (outK (lvN p k).li ((lvN p k).lo.getD n []) (outsP p n)) _).getD r false = true
   rw [backK_get _ _ _ (by rw [outK_len, ok.ro n hn]; exact hr), Bool.or_eq_true, Bool.and_eq_true, decide_eq_true_eq, decide_eq_true_eq]
   rcases hx with hx | ⟨hx, hy⟩
   ·exact .inl hx
   ·exact .inr ⟨hx, up n hn r hr hy⟩
  have main : ∀ (r : Nat), r < regsN p → ∀ n, LvS p r n → n < p.blks.length → ((lvN p k).li.getD n []).getD r false = true := by
   intro r hr n hl
   refine hl (fun n => n < p.blks.length → ((lvN p k).li.getD n []).getD r false = true) ?_ ?_
   ·intro n hw hn
    rw [withinB_0] at hw
    refine inn n hn r hr ?_
    split at hw
    ·split at hw
     ·exact .inr ⟨‹_›, .inl ‹_›⟩
     ·cases hw
    ·exact .inl hw
   ·intro n t hw ht ih hn
    rw [withinB_0] at hw
    refine inn n hn r hr ?_
    split at hw
    ·exact .inr ⟨‹_›, .inr ⟨t, ht, ih (by have := outsP_mem ht; omega)⟩⟩
    ·exact absurd hw ‹_›
  refine ⟨fun n hn r hr hl => by rw [hI]; exact main r hr n hl hn, fun n hn r hr hl => ?_⟩
  rw [show (lvN p (k + 1)).lo.getD n [] = outK (lvN p k).li ((lvN p k).lo.getD n []) (outsP p n) from (h4 n hn).1]
  refine up n hn r hr ?_
  rcases hl with hl | ⟨t, ht, hl⟩
  ·exact .inl hl
  ·exact .inr ⟨t, ht, main r hr _ hl (by have := outsP_mem ht; omega)⟩
/-- the marking finds what the search finds -/
theorem lv_live {p : Pr} {k : Nat} (h : (lvN p k).grew = false) {n r : Nat} (hn : n < p.blks.length) (hr : r < regsN p) :
  ((lvN p k).li.getD n []).getD r false = liveP p n 0 r ∧ ((lvN p k).lo.getD n []).getD r false = liveP p n (p.blks.getD n default).ins.length r := by
 obtain ⟨h1, h2⟩ := lv_full h
 obtain ⟨h3, -⟩ := lvN_keep p k
 refine ⟨?_, ?_⟩
 ·rw [Bool.eq_iff_iff, liveP_0]; exact ⟨(h3 n hn r hr).1, h1 n hn r hr⟩
 ·rw [Bool.eq_iff_iff, liveP_end]; exact ⟨(h3 n hn r hr).2, h2 n hn r hr⟩
end Go.Proofs.YtchoiankeohonaaGreatDoor
