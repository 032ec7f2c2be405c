/-
 A table of rows of integers that grow one by one; which blocks lead to which, gathered so.; Contract of flow's Preds.; Into which things registers may point, as plain data: two ways to reckon it, round by round, that come to the same least answer.; The same by lists, both ways' ends, and that they are one.
-/
import Derived.Test.YtkhfddodmjnecaaGreatDoorZFoldKnown11
import Derived.Test.YtkhfddodmjnecaaGreatDoorZFoldKnown00

set_option linter.all false
namespace Go.Proofs.YtkhfddodmjnecaaGreatDoor
open Go.ChangeShapes Go.WideShapes Go.ChangeAt Go.RowKit
set_option maxHeartbeats 2000000
set_option maxRecDepth 20000

/-- a table of rows of the call's own -/
structure PT (W0 w : World) (gP B n : Nat) (vs : List Value) (rows : List (List Int)) : Prop where
 below : Below W0.heap.size W0 w
 tab : w.ownsRow 0 46 1 (.slice (some ⟨gP, 0, none⟩) n n) n vs
 row : ∀ j, j < n → OwnI w B (vs.getD j undef) (rows.getD j [])
 ne : ∀ i j, i < n → j < n → i ≠ j → (vs.getD i undef).ownBlock = none ∨ (vs.getD i undef).ownBlock ≠ (vs.getD j undef).ownBlock
 g0 : W0.heap.size ≤ gP
 gB : gP < B
 Bw : B ≤ w.heap.size
 len : rows.length = n
section
variable {W0 w w' : World} {gP B n : Nat} {vs : List Value} {rows : List (List Int)}
theorem PT.vlen (h : PT W0 w gP B n vs rows) : vs.length = n := by have := h.tab.1; omega
theorem PT.grow (h : PT W0 w gP B n vs rows) (hb : Below w.heap.size w w') : PT W0 w' gP B n vs rows := by
 have hg : w.grownBy w' none := ⟨hb.os, hb.tape, hb.output, hb.size, fun k hk _ => hb.block k hk⟩
 have h1 := h.g0
 have h2 := h.gB
 have h3 := h.Bw
 exact ⟨h.below.trans (hb.mono (by omega)), World.ownsRow.kept h.tab hg (.inr (by simp [Value.ownBlock])), fun j hj => (h.row j hj).below hb, h.ne, h.g0, h.gB, Nat.le_trans h.Bw hb.size, h.len⟩
theorem PT.cell (h : PT W0 w gP B n vs rows) {j : Nat} (hj : j < n) : w.cell? ⟨gP, j, none⟩ = some (vs.getD j undef) := by
 have := h.tab.cellAt j (by omega)
 rw [this]
 simp [List.getD, h.vlen, hj]
theorem getD_setV (l : List Value) (i j : Nat) (x : Value) (h : i < l.length) : (l.set i x).getD j undef = if j = i then x else l.getD j undef := by
 simp only [List.getD, List.getElem?_set]
 by_cases e : i = j
 ·subst e; simp [h]
 ·simp [e, Ne.symm e]
theorem getD_setR (l : List (List Int)) (i j : Nat) (x : List Int) (h : i < l.length) : (l.set i x).getD j [] = if j = i then x else l.getD j [] := by
 simp only [List.getD, List.getElem?_set]
 by_cases e : i = j
 ·subst e; simp [h]
 ·simp [e, Ne.symm e]
theorem PT.push {v' : Value} {j : Nat} {x : Int} (h : PT W0 w gP B n vs rows) (hj : j < n) (hg : w.grownBy w' (vs.getD j undef).ownBlock)
  (ho : w'.ownsRow B 3 1 v' ((rows.getD j []).length + 1) ((rows.getD j []).map (Value.int .i64) ++ [.int .i64 x])) (hat : v'.ownBlock = (vs.getD j undef).ownBlock ∨ v'.ownBlock = some w.heap.size) :
  PT W0 (w'.setCell ⟨gP, j, none⟩ v') gP B n (vs.set j v') (rows.set j (rows.getD j [] ++ [x])) := by
 have h1 := h.g0
 have h2 := h.gB
 have h3 := h.Bw
 have hvl := h.vlen
 have hrl := h.len
 have fr : ∀ i, i < n → ∀ b, (vs.getD i undef).ownBlock = some b → B ≤ b ∧ b < w.heap.size := fun i hi b e => World.ownsRow.lt (h.row i hi) b e
 have htab := World.ownsRow.kept h.tab hg (.inr (fun e => by have := (fr j hj gP e.symm).1; omega))
 obtain ⟨htab2, hg2⟩ := htab.stored j v'
 have hB1 := Nat.le_trans h.Bw hg.size
 refine ⟨?_, htab2, fun i hi => ?_, fun i k hi hk hik => ?_, h.g0, h.gB, by simpa using hB1, by simpa using h.len⟩
 ·exact (grown_belG h.below (Nat.le_trans (by omega) h.Bw) hg (fun b e => by have := (fr j hj b e).1; omega)).setCell h.g0 _
 ·rw [getD_setV _ _ _ _ (by omega), getD_setR _ _ _ _ (by omega)]
  by_cases e : i = j
  ·rw [if_pos e, if_pos e]
   have hown : OwnI w' B v' (rows.getD j [] ++ [x]) := by unfold OwnI; simpa using ho
   exact far_set hown h.gB
  ·rw [if_neg e, if_neg e]
   exact far_set (World.ownsRow.kept (h.row i hi) hg (h.ne i j hi hj e)) h.gB
 ·rw [getD_setV _ _ _ _ (by omega), getD_setV _ _ _ _ (by omega)]
  by_cases e : i = j
  ·rw [if_pos e, if_neg (fun e2 => hik (e.trans e2.symm))]
   rcases hat with e2 | e2
   ·rw [e2]; exact h.ne j k hj hk (fun e3 => hik (e.trans e3))
   ·right
    rw [e2]
    intro e3
    have := (fr k hk _ e3.symm).2
    omega
  ·rw [if_neg e]
   by_cases e4 : k = j
   ·rw [if_pos e4]
    rcases hat with e2 | e2
    ·rw [e2]; exact h.ne i j hi hj e
    ·by_cases e5 : (vs.getD i undef).ownBlock = none
     ·exact .inl e5
     ·right
      rw [e2]
      intro e3
      have := (fr i hi _ e3).2
      omega
   ·rw [if_neg e4]; exact h.ne i k hi hk hik
end
end Go.Proofs.YtkhfddodmjnecaaGreatDoor

set_option linter.all false
namespace Go.Proofs.YtkhfddodmjnecaaGreatDoor
open Go.ChangeShapes Go.WideShapes Go.ChangeAt Go.RowKit
set_option maxHeartbeats 2000000
set_option maxRecDepth 20000

/-- a list that is read, in a block that none of a table's rows lies in -/
def OutFar (w : World) (gP n : Nat) (vs : List Value) (a : Option Addr) (L : List Int) : Prop :=
 ∀ j, j < L.length → ∃ b o, a = some ⟨b, o, none⟩ ∧ b < w.heap.size ∧ b ≠ gP ∧ (∀ i, i < n → (vs.getD i undef).ownBlock ≠ some b) ∧ w.cell? ⟨b, o + j, none⟩ = some (.int .i64 (L.getD j 0))
theorem OutFar.push {w w' : World} {gP n : Nat} {vs : List Value} {a : Option Addr} {L : List Int} {v' : Value} {j : Nat} (h : OutFar w gP n vs a L) (hl : vs.length = n) (hj : j < n) (hg : w.grownBy w' (vs.getD j undef).ownBlock)
  (hat : v'.ownBlock = (vs.getD j undef).ownBlock ∨ v'.ownBlock = some w.heap.size) : OutFar (w'.setCell ⟨gP, j, none⟩ v') gP n (vs.set j v') a L := fun i hi => by
 obtain ⟨b, o, e, h1, h2, h3, h4⟩ := h i hi
 refine ⟨b, o, e, by have := hg.size; simp; omega, h2, fun k hk => ?_, ?_⟩
 ·rw [getD_setV _ _ _ _ (by omega)]
  by_cases e2 : k = j
  ·rw [if_pos e2]
   rcases hat with e3 | e3
   ·rw [e3]; exact h3 j hj
   ·rw [e3]; intro e4; simp only [Option.some.injEq] at e4; omega
  ·rw [if_neg e2]; exact h3 k hk
 ·rw [World.cell?_setCell_other _ _ _ _ (fun e => h2 (by simp only [Addr.mk.injEq] at e; first | exact e.1 | exact e.1.symm)), grown_cell hg h1 (h3 j hj)]
  exact h4
end Go.Proofs.YtkhfddodmjnecaaGreatDoor

set_option linter.all false
namespace Go.Proofs.YtkhfddodmjnecaaGreatDoor

/-- what an instruction asks: that one place has what another one has (none: what is out), or that a register has a thing -/
inductive Con where
 | sub (s d : Option Nat)
 | put (t d : Nat)
/-- does it hold? -/
def Con.holds (S : Option Nat → Nat → Prop) : Con → Prop
 | .sub s d => ∀ t, S s t → S d t
 | .put t d => S (some d) t

/-- registers' things and what is out, as words -/
structure AS where
 regs : List Nat
 out : Nat
def AS.get (x : AS) : Option Nat → Nat
 | none => x.out
 | some r => x.regs.getD r 0
def AS.join (x : AS) (d : Option Nat) (w : Nat) : AS :=
 match d with
 | none => { x with out := x.out ||| w }
 | some r => { x with regs := x.regs.set r (x.regs.getD r 0 ||| w) }
def AS.con (x : AS) : Con → AS
 | .sub s d => x.join d (x.get s)
 | .put t d => x.join (some d) (1 <<< t)
def AS.news (x : AS) : Con → Bool
 | .sub s d => x.get d ||| x.get s != x.get d
 | .put t d => x.get (some d) ||| (1 <<< t) != x.get (some d)
def AS.sem (x : AS) (o : Option Nat) (t : Nat) : Prop := (x.get o).testBit t = true
/-- all of them, one behind the other; was there news? -/
def AS.pass (x : AS) (l : List Con) : AS × Bool := l.foldl (fun s c => (s.1.con c, s.1.news c || s.2)) (x, false)

/-- registers' things and what is out, as lists -/
structure AR where
 regs : List (List Bool)
 out : List Bool
def orL (a b : List Bool) : List Bool := (List.range a.length).map fun i => a.getD i false || b.getD i false
def withL (a : List Bool) (n : Int) : List Bool := (List.range a.length).map fun i => a.getD i false || decide ((i : Int) = n)
def AR.get (x : AR) : Option Nat → List Bool
 | none => x.out
 | some r => x.regs.getD r []
def AR.put (x : AR) (d : Option Nat) (l : List Bool) : AR :=
 match d with
 | none => { x with out := l }
 | some r => { x with regs := x.regs.set r l }
def AR.con (x : AR) : Con → AR
 | .sub s d => x.put d (orL (x.get d) (x.get s))
 | .put t d => x.put (some d) (withL (x.get (some d)) t)
def AR.sem (x : AR) (o : Option Nat) (t : Nat) : Prop := (x.get o).getD t false = true
def cntL (l : List Bool) : Nat := l.countP id
def AR.count (x : AR) : Nat := (x.regs.map cntL).sum + cntL x.out
def AR.pass (x : AR) (l : List Con) : AR := l.foldl AR.con x

theorem AS.get_join (x : AS) (d o : Option Nat) (w : Nat) (hd : ∀ r, d = some r → r < x.regs.length) : (x.join d w).get o = if o = d then x.get o ||| w else x.get o := by
 cases d with
 | none => cases o <;> simp [AS.join, AS.get]
 | some r =>
  have hr := hd r rfl
  cases o with
  | none => simp [AS.join, AS.get]
  | some q =>
   by_cases e : q = r
   ·subst e; simp [AS.join, AS.get, hr]
   ·have e2 : ¬ (some q = some r) := fun h => e (Option.some.inj h)
    have e3 : ¬ (r = q) := fun h => e h.symm
    rw [if_neg e2]
    show (x.regs.set r _).getD q 0 = x.regs.getD q 0
    rw [List.getD_eq_getElem?_getD, List.getElem?_set, if_neg e3, ← List.getD_eq_getElem?_getD]
theorem AS.join_len (x : AS) (d : Option Nat) (w : Nat) : (x.join d w).regs.length = x.regs.length := by cases d <;> simp [AS.join]
/-- a register that there is -/
def Con.inn (n : Nat) : Con → Prop
 | .sub s d => (∀ r, s = some r → r < n) ∧ (∀ r, d = some r → r < n)
 | .put _ d => d < n
theorem AS.con_len (x : AS) (c : Con) : (x.con c).regs.length = x.regs.length := by cases c <;> exact AS.join_len _ _ _
theorem AS.sem_con (x : AS) (c : Con) (hc : c.inn x.regs.length) (o : Option Nat) (t : Nat) :
  (x.con c).sem o t ↔ x.sem o t ∨ (match c with | .sub s d => o = d ∧ x.sem s t | .put u d => o = some d ∧ t = u) := by
 cases c with
 | sub s d =>
  unfold AS.sem AS.con
  rw [AS.get_join x d o _ hc.2]
  by_cases e : o = d
  ·rw [if_pos e, Nat.testBit_or]; simp [e]
  ·rw [if_neg e]; simp [e]
 | put u d =>
  unfold AS.sem AS.con
  rw [AS.get_join x (some d) o _ (fun r h => by cases h; exact hc)]
  by_cases e : o = some d
  ·rw [if_pos e, Nat.testBit_or]
   simp only [e, true_and, Bool.or_eq_true]
   rw [Nat.one_shiftLeft, Nat.testBit_two_pow]
   rw [decide_eq_true_eq]
   exact or_congr Iff.rfl ⟨Eq.symm, Eq.symm⟩
  ·rw [if_neg e]; simp [e]
theorem AS.ext' {x y : AS} (hl : x.regs.length = y.regs.length) (h : ∀ o, x.get o = y.get o) : x = y := by
 obtain ⟨xr, xo⟩ := x
 obtain ⟨yr, yo⟩ := y
 have h1 : xo = yo := h none
 subst h1
 congr 1
 refine List.ext_getElem hl fun i hi hj => ?_
 have := h (some i)
 simpa [AS.get, List.getD, hi, hj, show i < xr.length from hi, show i < yr.length from hj] using this
/-- no news: nothing is turned, and it held -/
theorem AS.news_no {x : AS} {c : Con} (hc : c.inn x.regs.length) (h : x.news c = false) : x.con c = x ∧ c.holds x.sem := by
 have key : x.con c = x := by
  refine AS.ext' (AS.con_len _ _) fun o => ?_
  cases c with
  | sub s d =>
   have h : x.get d ||| x.get s = x.get d := by simpa [AS.news] using h
   show (x.join d _).get o = _
   rw [AS.get_join x d o _ hc.2]
   split
   ·rename_i e; rw [e, h]
   ·rfl
  | put t d =>
   have h : x.get (some d) ||| (1 <<< t) = x.get (some d) := by simpa [AS.news] using h
   show (x.join (some d) _).get o = _
   rw [AS.get_join x (some d) o _ (fun r h => by cases h; exact hc)]
   split
   ·rename_i e; rw [e, h]
   ·rfl
 refine ⟨key, ?_⟩
 cases c with
 | sub s d =>
  intro t ht
  have := (AS.sem_con x (.sub s d) hc d t).2 (.inr ⟨rfl, ht⟩)
  rwa [key] at this
 | put t d =>
  have := (AS.sem_con x (.put t d) hc (some d) t).2 (.inr ⟨rfl, rfl⟩)
  rwa [key] at this
theorem AS.pass_fold (l : List Con) (x : AS) (b : Bool) : l.foldl (fun s c => (s.1.con c, s.1.news c || s.2)) (x, b) = ((x.pass l).1, (x.pass l).2 || b) := by
 induction l generalizing x b with
 | nil => simp [AS.pass]
 | cons c l ih =>
  unfold AS.pass
  rw [List.foldl_cons, List.foldl_cons, ih, ih (b := _ || false)]
  simp [Bool.or_assoc]
theorem AS.pass_cons (c : Con) (l : List Con) (x : AS) : x.pass (c :: l) = (((x.con c).pass l).1, ((x.con c).pass l).2 || x.news c) := by
 conv => lhs; unfold AS.pass
 rw [List.foldl_cons, AS.pass_fold]; simp
theorem AS.pass_len (l : List Con) (x : AS) : (x.pass l).1.regs.length = x.regs.length := by
 induction l generalizing x with
 | nil => rfl
 | cons c l ih => rw [AS.pass_cons]; exact (ih _).trans (AS.con_len _ _)
/-- a round without news: all holds -/
theorem AS.pass_no {l : List Con} {x : AS} (hl : ∀ c ∈ l, c.inn x.regs.length) (h : (x.pass l).2 = false) : (x.pass l).1 = x ∧ ∀ c ∈ l, c.holds x.sem := by
 induction l generalizing x with
 | nil => exact ⟨rfl, fun _ h => by cases h⟩
 | cons c l ih =>
  rw [AS.pass_cons] at h ⊢
  simp only [Bool.or_eq_false_iff] at h
  obtain ⟨e, hc⟩ := AS.news_no (hl c (List.mem_cons_self ..)) h.2
  rw [e] at h ⊢
  obtain ⟨e2, h2⟩ := ih (fun c hc => hl c (List.mem_cons_of_mem _ hc)) h.1
  refine ⟨e2, fun c' hc' => ?_⟩
  rcases List.mem_cons.1 hc' with rfl | hc'
  ·exact hc
  ·exact h2 c' hc'
/-- what it has lies in whatever holds all of them -/
theorem AS.pass_in {l : List Con} {x : AS} {S : Option Nat → Nat → Prop} (hl : ∀ c ∈ l, c.inn x.regs.length) (hS : ∀ c ∈ l, c.holds S) (h : ∀ o t, x.sem o t → S o t) : ∀ o t, (x.pass l).1.sem o t → S o t := by
 induction l generalizing x with
 | nil => exact h
 | cons c l ih =>
  rw [AS.pass_cons]
  refine ih (fun c' hc' => by rw [AS.con_len]; exact hl c' (List.mem_cons_of_mem _ hc')) (fun c' hc' => hS c' (List.mem_cons_of_mem _ hc')) fun o t ht => ?_
  rcases (AS.sem_con x c (hl c (List.mem_cons_self ..)) o t).1 ht with h1 | h1
  ·exact h o t h1
  ·have := hS c (List.mem_cons_self ..)
   cases c with
   | sub s d => obtain ⟨rfl, h2⟩ := h1; exact this t (h s t h2)
   | put u d => obtain ⟨rfl, rfl⟩ := h1; exact this
theorem AS.pass_up {l : List Con} {x : AS} (hl : ∀ c ∈ l, c.inn x.regs.length) : ∀ o t, x.sem o t → (x.pass l).1.sem o t := by
 induction l generalizing x with
 | nil => exact fun _ _ h => h
 | cons c l ih =>
  rw [AS.pass_cons]
  exact fun o t h => ih (fun c' hc' => by rw [AS.con_len]; exact hl c' (List.mem_cons_of_mem _ hc')) o t ((AS.sem_con x c (hl c (List.mem_cons_self ..)) o t).2 (.inl h))
end Go.Proofs.YtkhfddodmjnecaaGreatDoor

set_option linter.all false
namespace Go.Proofs.YtkhfddodmjnecaaGreatDoor

/-- a thing that there is -/
def Con.thing (T : Nat) : Con → Prop
 | .sub _ _ => True
 | .put t _ => t < T
/-- lists of one length -/
structure AR.Ok (x : AR) (n T : Nat) : Prop where
 rows : x.regs.length = n
 row : ∀ l ∈ x.regs, l.length = T
 out : x.out.length = T
theorem AR.Ok.get {x : AR} {n T : Nat} (h : x.Ok n T) (o : Option Nat) (ho : ∀ r, o = some r → r < n) : (x.get o).length = T := by
 cases o with
 | none => exact h.out
 | some r =>
  have hr : r < x.regs.length := by rw [h.rows]; exact ho r rfl
  show (x.regs.getD r []).length = T
  rw [List.getD_eq_getElem?_getD, List.getElem?_eq_getElem hr]
  exact h.row _ (List.getElem_mem hr)
theorem AR.get_put (x : AR) (d o : Option Nat) (l : List Bool) (hd : ∀ r, d = some r → r < x.regs.length) : (x.put d l).get o = if o = d then l else x.get o := by
 cases d with
 | none => cases o <;> simp [AR.put, AR.get]
 | some r =>
  have hr := hd r rfl
  cases o with
  | none => simp [AR.put, AR.get]
  | some q =>
   by_cases e : q = r
   ·subst e; simp [AR.put, AR.get, hr]
   ·have e2 : ¬ (some q = some r) := fun h => e (Option.some.inj h)
    have e3 : ¬ (r = q) := fun h => e h.symm
    rw [if_neg e2]
    show (x.regs.set r _).getD q [] = x.regs.getD q []
    rw [List.getD_eq_getElem?_getD, List.getElem?_set, if_neg e3, ← List.getD_eq_getElem?_getD]
theorem AR.Ok.put {x : AR} {n T : Nat} (h : x.Ok n T) (d : Option Nat) {l : List Bool} (hl : l.length = T) : (x.put d l).Ok n T := by
 cases d with
 | none => exact ⟨h.rows, h.row, hl⟩
 | some r =>
  refine ⟨by simpa [AR.put] using h.rows, fun k hk => ?_, h.out⟩
  rcases List.mem_or_eq_of_mem_set hk with h1 | h1
  ·exact h.row k h1
  ·rw [h1]; exact hl
theorem orL_len (a b : List Bool) : (orL a b).length = a.length := by simp [orL]
theorem withL_len (a : List Bool) (n : Int) : (withL a n).length = a.length := by simp [withL]
theorem orL_get (a b : List Bool) (i : Nat) (hi : i < a.length) : (orL a b).getD i false = (a.getD i false || b.getD i false) := by
 simp [orL, hi]
theorem withL_get (a : List Bool) (n : Int) (i : Nat) (hi : i < a.length) : (withL a n).getD i false = (a.getD i false || decide ((i : Int) = n)) := by
 simp [withL, hi]
theorem AR.Ok.con {x : AR} {n T : Nat} (h : x.Ok n T) {c : Con} (hc : c.inn n) : (x.con c).Ok n T := by
 cases c with
 | sub s d => exact h.put d ((orL_len _ _).trans (h.get d hc.2))
 | put u d => exact h.put (some d) ((withL_len _ _).trans (h.get (some d) (fun r e => by cases e; exact hc)))
theorem AR.Ok.lt {x : AR} {n T : Nat} (h : x.Ok n T) {o : Option Nat} {t : Nat} (ho : ∀ r, o = some r → r < n) (ht : x.sem o t) : t < T := by
 have hl := h.get o ho
 apply Classical.byContradiction
 intro hn
 have : (x.get o)[t]? = none := List.getElem?_eq_none (by omega)
 unfold AR.sem at ht
 rw [List.getD_eq_getElem?_getD, this] at ht
 cases ht
theorem AR.sem_con {x : AR} {n T : Nat} (h : x.Ok n T) {c : Con} (hc : c.inn n) (ht : c.thing T) (o : Option Nat) (ho : ∀ r, o = some r → r < n) (t : Nat) :
  (x.con c).sem o t ↔ x.sem o t ∨ (match c with | .sub s d => o = d ∧ x.sem s t | .put u d => o = some d ∧ t = u) := by
 by_cases htT : t < T
 ·cases c with
  | sub s d =>
   unfold AR.sem AR.con
   rw [AR.get_put x d o _ (by rw [h.rows]; exact hc.2)]
   by_cases e : o = d
   ·rw [if_pos e, orL_get _ _ _ (by rw [h.get d hc.2]; exact htT)]; simp [e]
   ·rw [if_neg e]; simp [e]
  | put u d =>
   have hd : ∀ r, some d = some r → r < n := fun r e => by cases e; exact hc
   unfold AR.sem AR.con
   rw [AR.get_put x (some d) o _ (by rw [h.rows]; exact hd)]
   by_cases e : o = some d
   ·rw [if_pos e, withL_get _ _ _ (by rw [h.get (some d) hd]; exact htT)]
    simp only [e, true_and, Bool.or_eq_true, decide_eq_true_eq, Int.ofNat_inj]
   ·rw [if_neg e]; simp [e]
 ·have h1 : ¬ (x.con c).sem o t := fun e => htT ((h.con hc).lt ho e)
  have h2 : ¬ x.sem o t := fun e => htT (h.lt ho e)
  refine ⟨fun e => absurd e h1, fun e => ?_⟩
  rcases e with e | e
  ·exact absurd e h2
  ·cases c with
   | sub s d => exact absurd (h.lt hc.1 e.2) htT
   | put u d => exact absurd (e.2 ▸ ht) htT
theorem AR.pass_cons (c : Con) (l : List Con) (x : AR) : x.pass (c :: l) = (x.con c).pass l := rfl
theorem AR.Ok.pass {n T : Nat} {l : List Con} {x : AR} (h : x.Ok n T) (hl : ∀ c ∈ l, c.inn n) : (x.pass l).Ok n T := by
 induction l generalizing x with
 | nil => exact h
 | cons c l ih => exact ih (h.con (hl c (List.mem_cons_self ..))) (fun c' hc' => hl c' (List.mem_cons_of_mem _ hc'))
theorem AR.pass_up {n T : Nat} {l : List Con} {x : AR} (h : x.Ok n T) (hl : ∀ c ∈ l, c.inn n) (ht : ∀ c ∈ l, c.thing T) : ∀ o t, (∀ r, o = some r → r < n) → x.sem o t → (x.pass l).sem o t := by
 induction l generalizing x with
 | nil => exact fun _ _ _ h => h
 | cons c l ih =>
  have hc := hl c (List.mem_cons_self ..)
  exact fun o t ho hh => ih (h.con hc) (fun c' hc' => hl c' (List.mem_cons_of_mem _ hc')) (fun c' hc' => ht c' (List.mem_cons_of_mem _ hc')) o t ho ((AR.sem_con h hc (ht c (List.mem_cons_self ..)) o ho t).2 (.inl hh))
theorem AR.pass_in {n T : Nat} {l : List Con} {x : AR} {S : Option Nat → Nat → Prop} (h : x.Ok n T) (hl : ∀ c ∈ l, c.inn n) (ht : ∀ c ∈ l, c.thing T) (hS : ∀ c ∈ l, c.holds S) (hx : ∀ o t, (∀ r, o = some r → r < n) → x.sem o t → S o t) :
  ∀ o t, (∀ r, o = some r → r < n) → (x.pass l).sem o t → S o t := by
 induction l generalizing x with
 | nil => exact hx
 | cons c l ih =>
  have hc := hl c (List.mem_cons_self ..)
  refine ih (h.con hc) (fun c' hc' => hl c' (List.mem_cons_of_mem _ hc')) (fun c' hc' => ht c' (List.mem_cons_of_mem _ hc')) (fun c' hc' => hS c' (List.mem_cons_of_mem _ hc')) fun o t ho hh => ?_
  rcases (AR.sem_con h hc (ht c (List.mem_cons_self ..)) o ho t).1 hh with h1 | h1
  ·exact hx o t ho h1
  ·have := hS c (List.mem_cons_self ..)
   cases c with
   | sub s d => obtain ⟨rfl, h2⟩ := h1; exact this t (hx s t hc.1 h2)
   | put u d => obtain ⟨rfl, rfl⟩ := h1; exact this
/-- a round that adds nothing: all holds -/
theorem AR.pass_no {n T : Nat} {l : List Con} {x : AR} (h : x.Ok n T) (hl : ∀ c ∈ l, c.inn n) (ht : ∀ c ∈ l, c.thing T) (hno : ∀ o t, (∀ r, o = some r → r < n) → (x.pass l).sem o t → x.sem o t) :
  ∀ c ∈ l, c.holds fun o t => (∀ r, o = some r → r < n) ∧ x.sem o t := by
 induction l generalizing x with
 | nil => exact fun _ h => by cases h
 | cons c l ih =>
  have hc := hl c (List.mem_cons_self ..)
  have htc := ht c (List.mem_cons_self ..)
  have hl2 : ∀ c' ∈ l, c'.inn n := fun c' hc' => hl c' (List.mem_cons_of_mem _ hc')
  have ht2 : ∀ c' ∈ l, c'.thing T := fun c' hc' => ht c' (List.mem_cons_of_mem _ hc')
  have up1 : ∀ o t, (∀ r, o = some r → r < n) → ((x.con c).sem o t ↔ x.sem o t) := fun o t ho =>
   ⟨fun e => hno o t ho (AR.pass_up (h.con hc) hl2 ht2 o t ho e), fun e => (AR.sem_con h hc htc o ho t).2 (.inl e)⟩
  have IH := ih (h.con hc) hl2 ht2 (fun o t ho e => (up1 o t ho).2 (hno o t ho e))
  have hS : (fun o t => (∀ r, o = some r → r < n) ∧ (x.con c).sem o t) = fun (o : Option Nat) (t : Nat) => (∀ r, o = some r → r < n) ∧ x.sem o t := by
   funext o t
   exact propext ⟨fun e => ⟨e.1, (up1 o t e.1).1 e.2⟩, fun e => ⟨e.1, (up1 o t e.1).2 e.2⟩⟩
  rw [hS] at IH
  intro c' hc'
  rcases List.mem_cons.1 hc' with rfl | hc'
  ·cases c' with
   | sub s d => exact fun t e => ⟨hc.2, (up1 d t hc.2).1 ((AR.sem_con h hc htc d hc.2 t).2 (.inr ⟨rfl, e.2⟩))⟩
   | put u d =>
    have hd : ∀ r, some d = some r → r < n := fun r e => by cases e; exact hc
    exact ⟨hd, (up1 _ u hd).1 ((AR.sem_con h hc htc (some d) hd u).2 (.inr ⟨rfl, rfl⟩))⟩
  ·exact IH c' hc'
end Go.Proofs.YtkhfddodmjnecaaGreatDoor
