/-
 The same by lists, both ways' ends, and that they are one.
-/
import Derived.Test.YtkhfddodmjnecaaZAliasMeets09
set_option linter.all false
namespace Go.Proofs.Ytkhfddodmjnecaa

theorem countP_less {α : Type} {l : List α} {p q : α → Bool} (h : ∀ a ∈ l, p a = true → q a = true) {a : α} (ha : a ∈ l) (hp : p a = false) (hq : q a = true) : l.countP p < l.countP q := by
 induction l with
 | nil => cases ha
 | cons b l ih =>
  have hm := List.countP_mono_left (l := l) (p := p) (q := q) fun x hx => h x (List.mem_cons_of_mem _ hx)
  have hb := h b (List.mem_cons_self ..)
  rw [List.countP_cons, List.countP_cons]
  rcases List.mem_cons.1 ha with rfl | ha
  ·rw [hp, hq]; simp; omega
  ·have := ih (fun x hx => h x (List.mem_cons_of_mem _ hx)) ha
   cases e1 : p b <;> cases e2 : q b <;> simp [e1, e2] at hb ⊢ <;> omega
/-- all places of so many registers and things -/
def cellsA (n T : Nat) : List (Option Nat × Nat) := (none :: (List.range n).map some).flatMap fun o => (List.range T).map fun t => (o, t)
theorem mem_cellsA {n T : Nat} {o : Option Nat} {t : Nat} (ho : ∀ r, o = some r → r < n) (ht : t < T) : (o, t) ∈ cellsA n T := by
 unfold cellsA
 rw [List.mem_flatMap]
 refine ⟨o, ?_, List.mem_map.2 ⟨t, List.mem_range.2 ht, rfl⟩⟩
 cases o with
 | none => exact List.mem_cons_self ..
 | some r => exact List.mem_cons_of_mem _ (List.mem_map.2 ⟨r, List.mem_range.2 (ho r rfl), rfl⟩)
def AS.cnt (x : AS) (n T : Nat) : Nat := (cellsA n T).countP fun c => (x.get c.1).testBit c.2
theorem AS.cnt_le (x : AS) (n T : Nat) : x.cnt n T ≤ (cellsA n T).length := List.countP_le_length
/-- news: more than there was -/
theorem AS.pass_news {l : List Con} {x : AS} (hl : ∀ c ∈ l, c.inn x.regs.length) (h : (x.pass l).2 = true) : ∃ o t, (∀ r, o = some r → r < x.regs.length) ∧ ¬ x.sem o t ∧ (x.pass l).1.sem o t := by
 induction l generalizing x with
 | nil => cases h
 | cons c l ih =>
  have hc := hl c (List.mem_cons_self ..)
  have hl2 : ∀ c' ∈ l, c'.inn (x.con c).regs.length := fun c' hc' => by rw [AS.con_len]; exact hl c' (List.mem_cons_of_mem _ hc')
  rw [AS.pass_cons] at h ⊢
  cases hn : ((x.con c).pass l).2 with
  | true =>
   obtain ⟨o, t, h0, h1, h2⟩ := ih hl2 hn
   exact ⟨o, t, fun r e => by have := h0 r e; rwa [AS.con_len] at this, fun e => h1 ((AS.sem_con x c hc o t).2 (.inl e)), h2⟩
  | false =>
   rw [hn] at h
   have hnew : x.news c = true := by simpa using h
   have key : ∀ (d : Option Nat) (w : Nat), (x.get d ||| w != x.get d) = true → ∃ t, ¬ x.sem d t ∧ w.testBit t = true := by
    intro d w hne
    have hne : x.get d ||| w ≠ x.get d := by simpa using hne
    apply Classical.byContradiction
    intro hno
    apply hne
    refine Nat.eq_of_testBit_eq fun i => ?_
    rw [Nat.testBit_or]
    cases e1 : (x.get d).testBit i with
    | true => rfl
    | false =>
     cases e2 : w.testBit i with
     | false => rfl
     | true => exact absurd ⟨i, by simp [AS.sem, e1], e2⟩ hno
   cases c with
   | sub s d =>
    obtain ⟨t, h1, h2⟩ := key d _ hnew
    exact ⟨d, t, hc.2, h1, AS.pass_up hl2 _ _ ((AS.sem_con x _ hc d t).2 (.inr ⟨rfl, h2⟩))⟩
   | put u d =>
    obtain ⟨t, h1, h2⟩ := key (some d) _ hnew
    rw [Nat.one_shiftLeft, Nat.testBit_two_pow, decide_eq_true_eq] at h2
    exact ⟨some d, t, fun r e => by cases e; exact hc, h1, AS.pass_up hl2 _ _ ((AS.sem_con x _ hc (some d) t).2 (.inr ⟨rfl, h2.symm⟩))⟩
/-- a thing that there is -/
def Con.thing (T : Nat) : Con → Prop
 | .sub _ _ => True
 | .put t _ => t < T
theorem AS.pass_bound {T : Nat} {l : List Con} {x : AS} (hl : ∀ c ∈ l, c.inn x.regs.length) (ht : ∀ c ∈ l, c.thing T) (h : ∀ o t, x.sem o t → t < T) : ∀ o t, (x.pass l).1.sem o t → t < T := by
 refine AS.pass_in (S := fun _ t => t < T) hl (fun c hc => ?_) h
 have := ht c hc
 cases c with
 | sub s d => exact fun _ h => h
 | put u d => exact this
theorem AS.pass_more {T : Nat} {l : List Con} {x : AS} (hl : ∀ c ∈ l, c.inn x.regs.length) (ht : ∀ c ∈ l, c.thing T) (h : ∀ o t, x.sem o t → t < T) (hn : (x.pass l).2 = true) :
  x.cnt x.regs.length T < (x.pass l).1.cnt x.regs.length T := by
 obtain ⟨o, t, h0, h1, h2⟩ := AS.pass_news hl hn
 refine countP_less (fun c _ hc => AS.pass_up hl c.1 c.2 hc) (mem_cellsA h0 (AS.pass_bound hl ht h o t h2)) ?_ h2
 cases e : (x.get o).testBit t with
 | false => rfl
 | true => exact absurd e h1

/-- lists of one length -/
structure AR.Ok (x : AR) (n T : Nat) : Prop where
 rows : x.regs.length = n
 row : ∀ l ∈ x.regs, l.length = T
 out : x.out.length = T
theorem AR.Ok.get {x : AR} {n T : Nat} (h : x.Ok n T) (o : Option Nat) (ho : ∀ r, o = some r → r < n) : (x.get o).length = T := by
 cases o with
 | none => exact h.out
 | some r =>
  have hr : r < x.regs.length := by rw [h.rows]; exact ho r rfl
  show (x.regs.getD r []).length = T
  rw [List.getD_eq_getElem?_getD, List.getElem?_eq_getElem hr]
  exact h.row _ (List.getElem_mem hr)
theorem AR.get_put (x : AR) (d o : Option Nat) (l : List Bool) (hd : ∀ r, d = some r → r < x.regs.length) : (x.put d l).get o = if o = d then l else x.get o := by
 cases d with
 | none => cases o <;> simp [AR.put, AR.get]
 | some r =>
  have hr := hd r rfl
  cases o with
  | none => simp [AR.put, AR.get]
  | some q =>
   by_cases e : q = r
   ·subst e; simp [AR.put, AR.get, hr]
   ·have e2 : ¬ (some q = some r) := fun h => e (Option.some.inj h)
    have e3 : ¬ (r = q) := fun h => e h.symm
    rw [if_neg e2]
    show (x.regs.set r _).getD q [] = x.regs.getD q []
    rw [List.getD_eq_getElem?_getD, List.getElem?_set, if_neg e3, ← List.getD_eq_getElem?_getD]
theorem AR.Ok.put {x : AR} {n T : Nat} (h : x.Ok n T) (d : Option Nat) {l : List Bool} (hl : l.length = T) : (x.put d l).Ok n T := by
 cases d with
 | none => exact ⟨h.rows, h.row, hl⟩
 | some r =>
  refine ⟨by simpa [AR.put] using h.rows, fun k hk => ?_, h.out⟩
  rcases List.mem_or_eq_of_mem_set hk with h1 | h1
  ·exact h.row k h1
  ·rw [h1]; exact hl
theorem orL_len (a b : List Bool) : (orL a b).length = a.length := by simp [orL]
theorem withL_len (a : List Bool) (n : Int) : (withL a n).length = a.length := by simp [withL]
theorem orL_get (a b : List Bool) (i : Nat) (hi : i < a.length) : (orL a b).getD i false = (a.getD i false || b.getD i false) := by
 simp [orL, hi]
theorem withL_get (a : List Bool) (n : Int) (i : Nat) (hi : i < a.length) : (withL a n).getD i false = (a.getD i false || decide ((i : Int) = n)) := by
 simp [withL, hi]
theorem AR.Ok.con {x : AR} {n T : Nat} (h : x.Ok n T) {c : Con} (hc : c.inn n) : (x.con c).Ok n T := by
 cases c with
 | sub s d => exact h.put d ((orL_len _ _).trans (h.get d hc.2))
 | put u d => exact h.put (some d) ((withL_len _ _).trans (h.get (some d) (fun r e => by cases e; exact hc)))
theorem AR.Ok.lt {x : AR} {n T : Nat} (h : x.Ok n T) {o : Option Nat} {t : Nat} (ho : ∀ r, o = some r → r < n) (ht : x.sem o t) : t < T := by
 have hl := h.get o ho
 apply Classical.byContradiction
 intro hn
 have : (x.get o)[t]? = none := List.getElem?_eq_none (by omega)
 unfold AR.sem at ht
 rw [List.getD_eq_getElem?_getD, this] at ht
 cases ht
theorem AR.sem_con {x : AR} {n T : Nat} (h : x.Ok n T) {c : Con} (hc : c.inn n) (ht : c.thing T) (o : Option Nat) (ho : ∀ r, o = some r → r < n) (t : Nat) :
  (x.con c).sem o t ↔ x.sem o t ∨ (match c with | .sub s d => o = d ∧ x.sem s t | .put u d => o = some d ∧ t = u) := by
 by_cases htT : t < T
 ·cases c with
  | sub s d =>
   unfold AR.sem AR.con
   rw [AR.get_put x d o _ (by rw [h.rows]; exact hc.2)]
   by_cases e : o = d
   ·rw [if_pos e, orL_get _ _ _ (by rw [h.get d hc.2]; exact htT)]; simp [e]
   ·rw [if_neg e]; simp [e]
  | put u d =>
   have hd : ∀ r, some d = some r → r < n := fun r e => by cases e; exact hc
   unfold AR.sem AR.con
   rw [AR.get_put x (some d) o _ (by rw [h.rows]; exact hd)]
   by_cases e : o = some d
   ·rw [if_pos e, withL_get _ _ _ (by rw [h.get (some d) hd]; exact htT)]
    simp only [e, true_and, Bool.or_eq_true, decide_eq_true_eq, Int.ofNat_inj]
   ·rw [if_neg e]; simp [e]
 ·have h1 : ¬ (x.con c).sem o t := fun e => htT ((h.con hc).lt ho e)
  have h2 : ¬ x.sem o t := fun e => htT (h.lt ho e)
  refine ⟨fun e => absurd e h1, fun e => ?_⟩
  rcases e with e | e
  ·exact absurd e h2
  ·cases c with
   | sub s d => exact absurd (h.lt hc.1 e.2) htT
   | put u d => exact absurd (e.2 ▸ ht) htT
theorem AR.pass_cons (c : Con) (l : List Con) (x : AR) : x.pass (c :: l) = (x.con c).pass l := rfl
theorem AR.pass_append (l k : List Con) (x : AR) : x.pass (l ++ k) = (x.pass l).pass k := by unfold AR.pass; rw [List.foldl_append]
theorem AR.Ok.pass {n T : Nat} {l : List Con} {x : AR} (h : x.Ok n T) (hl : ∀ c ∈ l, c.inn n) : (x.pass l).Ok n T := by
 induction l generalizing x with
 | nil => exact h
 | cons c l ih => exact ih (h.con (hl c (List.mem_cons_self ..))) (fun c' hc' => hl c' (List.mem_cons_of_mem _ hc'))
theorem AR.pass_up {n T : Nat} {l : List Con} {x : AR} (h : x.Ok n T) (hl : ∀ c ∈ l, c.inn n) (ht : ∀ c ∈ l, c.thing T) : ∀ o t, (∀ r, o = some r → r < n) → x.sem o t → (x.pass l).sem o t := by
 induction l generalizing x with
 | nil => exact fun _ _ _ h => h
 | cons c l ih =>
  have hc := hl c (List.mem_cons_self ..)
  exact fun o t ho hh => ih (h.con hc) (fun c' hc' => hl c' (List.mem_cons_of_mem _ hc')) (fun c' hc' => ht c' (List.mem_cons_of_mem _ hc')) o t ho ((AR.sem_con h hc (ht c (List.mem_cons_self ..)) o ho t).2 (.inl hh))
theorem AR.pass_in {n T : Nat} {l : List Con} {x : AR} {S : Option Nat → Nat → Prop} (h : x.Ok n T) (hl : ∀ c ∈ l, c.inn n) (ht : ∀ c ∈ l, c.thing T) (hS : ∀ c ∈ l, c.holds S) (hx : ∀ o t, (∀ r, o = some r → r < n) → x.sem o t → S o t) :
  ∀ o t, (∀ r, o = some r → r < n) → (x.pass l).sem o t → S o t := by
 induction l generalizing x with
 | nil => exact hx
 | cons c l ih =>
  have hc := hl c (List.mem_cons_self ..)
  refine ih (h.con hc) (fun c' hc' => hl c' (List.mem_cons_of_mem _ hc')) (fun c' hc' => ht c' (List.mem_cons_of_mem _ hc')) (fun c' hc' => hS c' (List.mem_cons_of_mem _ hc')) fun o t ho hh => ?_
  rcases (AR.sem_con h hc (ht c (List.mem_cons_self ..)) o ho t).1 hh with h1 | h1
  ·exact hx o t ho h1
  ·have := hS c (List.mem_cons_self ..)
   cases c with
   | sub s d => obtain ⟨rfl, h2⟩ := h1; exact this t (hx s t hc.1 h2)
   | put u d => obtain ⟨rfl, rfl⟩ := h1; exact this
/-- a round that adds nothing: all holds -/
theorem AR.pass_no {n T : Nat} {l : List Con} {x : AR} (h : x.Ok n T) (hl : ∀ c ∈ l, c.inn n) (ht : ∀ c ∈ l, c.thing T) (hno : ∀ o t, (∀ r, o = some r → r < n) → (x.pass l).sem o t → x.sem o t) :
  ∀ c ∈ l, c.holds fun o t => (∀ r, o = some r → r < n) ∧ x.sem o t := by
 induction l generalizing x with
 | nil => exact fun _ h => by cases h
 | cons c l ih =>
  have hc := hl c (List.mem_cons_self ..)
  have htc := ht c (List.mem_cons_self ..)
  have hl2 : ∀ c' ∈ l, c'.inn n := fun c' hc' => hl c' (List.mem_cons_of_mem _ hc')
  have ht2 : ∀ c' ∈ l, c'.thing T := fun c' hc' => ht c' (List.mem_cons_of_mem _ hc')
  have up1 : ∀ o t, (∀ r, o = some r → r < n) → ((x.con c).sem o t ↔ x.sem o t) := fun o t ho =>
   ⟨fun e => hno o t ho (AR.pass_up (h.con hc) hl2 ht2 o t ho e), fun e => (AR.sem_con h hc htc o ho t).2 (.inl e)⟩
  have IH := ih (h.con hc) hl2 ht2 (fun o t ho e => (up1 o t ho).2 (hno o t ho e))
  have hS : (fun o t => (∀ r, o = some r → r < n) ∧ (x.con c).sem o t) = fun (o : Option Nat) (t : Nat) => (∀ r, o = some r → r < n) ∧ x.sem o t := by
   funext o t
   exact propext ⟨fun e => ⟨e.1, (up1 o t e.1).1 e.2⟩, fun e => ⟨e.1, (up1 o t e.1).2 e.2⟩⟩
  rw [hS] at IH
  intro c' hc'
  rcases List.mem_cons.1 hc' with rfl | hc'
  ·cases c' with
   | sub s d => exact fun t e => ⟨hc.2, (up1 d t hc.2).1 ((AR.sem_con h hc htc d hc.2 t).2 (.inr ⟨rfl, e.2⟩))⟩
   | put u d =>
    have hd : ∀ r, some d = some r → r < n := fun r e => by cases e; exact hc
    exact ⟨hd, (up1 _ u hd).1 ((AR.sem_con h hc htc (some d) hd u).2 (.inr ⟨rfl, rfl⟩))⟩
  ·exact IH c' hc'
end Go.Proofs.Ytkhfddodmjnecaa
