/-
 Regions that draw their order: a planned order, in which operations that only reckon or look stand as early as may be and all others follow one another, serves every order that may be drawn.
-/
import Derived.BigQuiet
import Derived.Below
import Derived.WalkKit
set_option linter.all false
namespace Go.Proofs.YtchoiankeohonaaGreatDoor
open Go Go.RowKit

/-- no end at all -/
def never : Exit → Act → World → Prop := fun _ _ _ => False
/-- the normal end alone -/
def onlyN (K : Act → World → Prop) : Exit → Act → World → Prop
 | .normal, a, w => K a w
 | _, _, _ => False

/-- operations that hand back a value and leave the world as it is, or end the run -/
def lookOp : Oper → Bool
 | ⟨_, .move _, _, _, _, _⟩ | ⟨_, .assign _, _, _, _, _⟩ | ⟨_, .pick _ _ _, _, _, _, _⟩ | ⟨_, .load _ _, _, _, _, _⟩ | ⟨_, .binOp .., _, _, _, _⟩ | ⟨_, .unOp .., _, _, _, _⟩ | ⟨_, .convert .., _, _, _, _⟩
 | ⟨_, .fieldAddr .., _, _, _, _⟩ | ⟨_, .field .., _, _, _, _⟩ | ⟨_, .indexAddr .., _, _, _, _⟩ | ⟨_, .index .., _, _, _, _⟩ | ⟨_, .extract .., _, _, _, _⟩ | ⟨_, .build .., _, _, _, _⟩
 | ⟨_, .slice .., _, _, _, _⟩ | ⟨_, .makeInterface .., _, _, _, _⟩ | ⟨_, .nilCheck .., _, _, _, _⟩ => true
 | _ => false

theorem bind_value {P : Program} {s : Sem Value} {w : World} {n : Next} {w' : World} (h : (do pure (Next.value (← s)) : Sem Next).run P w = .ok n w') : ∃ v, n = .value v := by
 simp only [Sem.run_bind] at h
 cases hs : s.run P w with
 | ok v w1 =>
  rw [hs] at h
  simp only [Result.andThen_ok, Sem.run_pure, Result.ok.injEq] at h
  exact ⟨v, h.1.symm⟩
 | halt x w1 => rw [hs] at h; simp [Result.andThen] at h
/-- a value, if anything -/
def Vals (s : Sem Next) : Prop := ∀ P w n w', s.run P w = .ok n w' → ∃ v, n = .value v
theorem vals_pure (v : Value) : Vals (pure (.value v)) := fun P w n w' h => by
 simp only [Sem.run_pure, Result.ok.injEq] at h; exact ⟨_, h.1.symm⟩
theorem vals_bind {α : Type} {s : Sem α} {f : α → Sem Next} (hf : ∀ a, Vals (f a)) : Vals (s >>= f) := fun P w n w' h => by
 simp only [Sem.run_bind] at h
 cases hs : s.run P w with
 | ok a w1 => rw [hs] at h; exact hf a P w1 n w' h
 | halt x w1 => rw [hs] at h; simp [Result.andThen] at h
theorem lookOp_spec {P : Program} {o : Oper} {ρ : Operand → Value} {w : World} {n : Next} {w' : World} (h : lookOp o = true) (hr : (execOp ρ o).run P w = .ok n w') : ∃ v, n = .value v := by
 obtain ⟨dst, op, type, pos, after, guard⟩ := o
 cases op <;> simp only [lookOp, Bool.false_eq_true] at h <;> simp only [execOp] at hr
 case move => simp only [Sem.run_pure, Result.ok.injEq] at hr; exact ⟨_, hr.1.symm⟩
 case assign => simp only [Sem.run_pure, Result.ok.injEq] at hr; exact ⟨_, hr.1.symm⟩
 case pick c a b =>
  simp only [Sem.run_bind] at hr
  cases hs : (asBool (ρ c)).run P w with
  | ok v w1 =>
   rw [hs] at hr
   simp only [Result.andThen_ok] at hr
   split at hr <;> simp only [Sem.run_pure, Result.ok.injEq] at hr <;> exact ⟨_, hr.1.symm⟩
  | halt x w1 => rw [hs] at hr; simp [Result.andThen] at hr
 case nilCheck x =>
  split at hr
  all_goals first
   | (simp only [Sem.run_pure, Result.ok.injEq] at hr; exact ⟨_, hr.1.symm⟩)
   | (simp [runtimePanic, go_sem] at hr; done)
   | skip
  split at hr
  all_goals first
   | (simp only [Sem.run_pure, Result.ok.injEq] at hr; exact ⟨_, hr.1.symm⟩)
   | (simp [runtimePanic, go_sem] at hr; done)
   | skip
  refine vals_bind (fun _ => vals_bind fun b => ?_) _ _ _ _ hr
  split
  ·exact vals_bind fun _ => vals_pure _
  ·exact vals_pure _
 all_goals exact bind_value hr

/-- in the blocks of S nothing has turned -/
def Keep (S : Nat → Prop) (w w' : World) : Prop := ∀ b o, S b → w'.cell? ⟨b, o, none⟩ = w.cell? ⟨b, o, none⟩
theorem Keep.refl (S : Nat → Prop) (w : World) : Keep S w w := fun _ _ _ => rfl
theorem Keep.trans {S : Nat → Prop} {a b c : World} (h : Keep S a b) (k : Keep S b c) : Keep S a c := fun x o hx => (k x o hx).trans (h x o hx)
open Classical in
/-- a world that keeps what w has in the blocks of S -/
noncomputable def kp (S : Nat → Prop) (w x : World) : World := if Keep S w x then x else w
theorem kp_keep (S : Nat → Prop) (w x : World) : Keep S w (kp S w x) := by
 unfold kp; split
 ·assumption
 ·exact Keep.refl _ _
theorem keep_kp {S : Nat → Prop} {w x : World} (h : Keep S w x) : ∃ y, x = kp S w y := ⟨x, by unfold kp; rw [if_pos h]⟩
theorem cell?_kp {S : Nat → Prop} {w x : World} {b o : Nat} (h : S b) : (kp S w x).cell? ⟨b, o, none⟩ = w.cell? ⟨b, o, none⟩ := kp_keep S w x b o h
attribute [go_sem] cell?_kp

section
variable {P : Program} {ops : Array Oper} {Q : Act → World → Prop} {S : Nat → Prop}

/-- all other operations come before it -/
def sink (ops : Array Oper) (j : Nat) : Bool :=
 (List.range ops.size).all fun i => i == j || (List.range ops.size).any fun k => decide (i < k) && ((ops[k]?).map fun o => o.after.toList.any fun e => Region.binds .any e && e.on == i).getD false
/-- what an operation that is listed waits for is listed -/
def closedB (ops : Array Oper) (listed : Array Bool) : Bool :=
 (List.range ops.size).all fun k => !(listed.getD k true) || ((ops[k]?).map fun o => o.after.all fun e => !Region.binds .any e || listed.getD e.on false).getD true
def Closed (ops : Array Oper) (listed : Array Bool) : Prop := ∀ k o, ops[k]? = some o → listed.getD k true = true → ∀ e ∈ o.after, Region.binds .any e = true → listed.getD e.on false = true
theorem closed_of {ops : Array Oper} {listed : Array Bool} (h : closedB ops listed = true) : Closed ops listed := by
 intro k o hk hl e he hb
 unfold closedB at h
 rw [List.all_eq_true] at h
 have h1 := h k (List.mem_range.2 (Array.getElem?_eq_some_iff.1 hk).1)
 rw [hl, hk] at h1
 simp only [Bool.not_true, Bool.false_or, Option.map_some, Option.getD_some, Array.all_eq_true_iff_forall_mem] at h1
 have h2 := h1 e he
 rw [hb] at h2
 simpa using h2
theorem closed_step {ops : Array Oper} {listed : Array Bool} {j : Nat} (h : Closed ops listed) (hj : j ∈ Region.ready .any ops listed) : Closed ops (listed.setIfInBounds j true) := by
 intro k o hk hl e he hb
 obtain ⟨h0, oj, hoj, hall⟩ := mem_ready.1 hj
 by_cases e' : k = j
 ·subst e'
  rw [hk] at hoj
  cases hoj
  exact getD_set_true (hall e he hb)
 ·rw [getD_set_ne true (fun h => e' h.symm)] at hl
  exact getD_set_true (h k o hk hl e he hb)
theorem getD_both {l : Array Bool} {k : Nat} (h1 : l.getD k false = true) (h2 : l.getD k true = false) : False := by
 rcases Nat.lt_or_ge k l.size with h | h
 ·simp [h] at h1 h2; rw [h1] at h2; cases h2
 ·simp [Array.getElem?_eq_none h] at h1
/-- the last one is not ready while another one is still to come -/
theorem sink_last {ops : Array Oper} {listed : Array Bool} {j : Nat} (hs : sink ops j = true) (hc : Closed ops listed) (hj : j ∈ Region.ready .any ops listed) : ∀ n i, ops.size - i = n → i < ops.size → i ≠ j → listed.getD i true = false → False := by
 intro n
 induction n using Nat.strongRecOn with
 | ind n ih =>
  intro i hn hi hne hl
  have h1 := hs
  unfold sink at h1
  rw [List.all_eq_true] at h1
  have h2 := h1 i (List.mem_range.2 hi)
  have hne' : (i == j) = false := by simpa using hne
  rw [hne', Bool.false_or, List.any_eq_true] at h2
  obtain ⟨k, hk, h3⟩ := h2
  rw [Bool.and_eq_true] at h3
  obtain ⟨hik, h4⟩ := h3
  have hik : i < k := of_decide_eq_true hik
  have hks := List.mem_range.1 hk
  cases hok : ops[k]? with
  | none => rw [hok] at h4; simp at h4
  | some o =>
   rw [hok] at h4
   simp only [Option.map_some, Option.getD_some, List.any_eq_true, Array.mem_toList_iff] at h4
   obtain ⟨e, he, h5⟩ := h4
   rw [Bool.and_eq_true] at h5
   have h6 : e.on = i := by simpa using h5.2
   by_cases hkj : k = j
   ·subst hkj
    obtain ⟨h0, oj, hoj, hall⟩ := mem_ready.1 hj
    rw [hok] at hoj
    cases hoj
    have := hall e he h5.1
    rw [h6] at this
    exact getD_both this hl
   ·cases hlk : listed.getD k true
    ·exact ih (ops.size - k) (by omega) k rfl hks hkj hlk
    ·have := hc k o hok hlk e he h5.1
     rw [h6] at this
     exact getD_both this hl
/-- nd: may another one come behind? Only then must the blocks of S be kept -/
def eOp (nd : Bool) (S : Nat → Prop) (P : Program) (ops : Array Oper) (i : Nat) (K : Act → World → Prop) (a : Act) (w : World) : Prop :=
 match ops[i]? with
 | none => K a w
 | some o => if Region.wanted o (yielded ops a.tmps) then o.wp P a w (fun a' w' => (nd = true → Keep S w w') ∧ K a' w') never else K (a.put o.dst undef) w

/-- whatever order is picked from here on -/
def wpE (S : Nat → Prop) (P : Program) (ops : Array Oper) (Q : Act → World → Prop) : Nat → Array Bool → Act → World → Prop
 | 0, listed, a, w => Region.ready .any ops listed = [] ∧ Q a w
 | f + 1, listed, a, w => (Region.ready .any ops listed = [] → Q a w) ∧ ∀ i ∈ Region.ready .any ops listed, eOp (!(sink ops i)) S P ops i (wpE S P ops Q f (listed.setIfInBounds i true)) a w

theorem wp_never {o : Oper} {a : Act} {w : World} {K K' : Act → World → Prop} {Q' : Exit → Act → World → Prop} (h : ∀ a w, K a w → K' a w) (hh : o.wp P a w K never) : o.wp P a w K' Q' := by
 unfold Oper.wp at *
 generalize (execOp a.eval o).run P w = r at *
 cases r with
 | ok n w' =>
  cases n <;> simp only [Oper.upon] at hh ⊢
  case value => exact h _ _ hh
  case skip => exact h _ _ hh
  case defer => exact h _ _ hh
  case enter f args =>
   refine Calls.mono hh fun e w'' he => ?_
   cases e with
   | returned v => exact h _ _ he
   | panicked c => exact he.elim
   | outgrown => obtain ⟨_, _, hf⟩ := he; exact hf.elim
  case row row args => exact Rows.mono hh fun _ _ he => h _ _ he
 | halt x w' =>
  cases x <;> simp only [Oper.upon] at hh ⊢
  case panic => exact hh.elim

theorem eOp_mono {nd : Bool} {i : Nat} {a : Act} {w : World} {K K' : Act → World → Prop} (h : ∀ a w, K a w → K' a w) (hh : eOp nd S P ops i K a w) : eOp nd S P ops i K' a w := by
 unfold eOp at *
 split
 ·exact h _ _ (by simpa [*] using hh)
 ·rename_i o ho
  simp only [ho] at hh
  split
  ·rename_i hw; simp only [hw, if_true] at hh; exact wp_never (fun a w h' => ⟨h'.1, h _ _ h'.2⟩) hh
  ·rename_i hw; simp only [hw] at hh; exact h _ _ hh

theorem wpAny_of_E {Q' : Exit → Act → World → Prop} (hQ : ∀ a w, Q a w → Q' .normal a w) : ∀ (f : Nat) (listed : Array Bool) (a : Act) (w : World), wpE S P ops Q f listed a w → wpAny P .any ops Q' f listed a w
 | 0, _, _, _, h => ⟨h.1, hQ _ _ h.2⟩
 | f + 1, listed, a, w, h => ⟨fun h0 => hQ _ _ (h.1 h0), fun i hi => by
   have h1 := h.2 i hi
   unfold eOp at h1
   unfold wpOp
   split
   ·rename_i ho; simp only [ho] at h1; exact wpAny_of_E hQ f _ _ _ h1
   ·rename_i o ho
    simp only [ho] at h1
    split
    ·rename_i hw
     simp only [hw, if_true] at h1
     exact .inl (wp_never (fun a' w' h2 => wpAny_of_E hQ f _ _ _ h2.2) h1)
    ·rename_i hw; simp only [hw] at h1; exact wpAny_of_E hQ f _ _ _ h1⟩

/-- the operation yields one value, now and in every world that has grown out of this one -/
def YieldsE (S : Nat → Prop) (P : Program) (ops : Array Oper) (w : World) (o : Oper) (v : Value) (a : Act) : Prop :=
 (Region.wanted o (yielded ops a.tmps) = true ∧ ∀ w', Keep S w w' → (execOp a.eval o).run P w' = .ok (.value v) w') ∨
 (Region.wanted o (yielded ops a.tmps) = false ∧ v = undef)

theorem YieldsE.of_same {o : Oper} {v : Value} {a a' : Act} {w w1 : World} (hy : YieldsE S P ops w o v a) (hb : Keep S w w1) (he : execOp a'.eval o = execOp a.eval o)
  (hw : Region.wanted o (yielded ops a'.tmps) = Region.wanted o (yielded ops a.tmps)) : YieldsE S P ops w1 o v a' := by
 unfold YieldsE at *
 rw [he, hw]
 rcases hy with ⟨h1, h2⟩ | h
 ·exact .inl ⟨h1, fun w' h' => h2 w' (hb.trans h')⟩
 ·exact .inr h
theorem YieldsE.eOp {nd : Bool} {i : Nat} {o : Oper} {v : Value} {a : Act} {w : World} (hi : ops[i]? = some o) (hy : YieldsE S P ops w o v a) {K : Act → World → Prop} (h : K (a.put o.dst v) w) : eOp nd S P ops i K a w := by
 unfold Proofs.YtchoiankeohonaaGreatDoor.eOp
 simp only [hi]
 rcases hy with ⟨hw, hv⟩ | ⟨hw, rfl⟩
 ·simp only [hw, if_true, Oper.wp, hv w (Keep.refl _ _), Oper.upon]; exact ⟨fun _ => Keep.refl _ _, h⟩
 ·simp only [hw, Bool.false_eq_true, if_false]; exact h

theorem eOp_put {j : Nat} {oi oj : Oper} {v : Value} (hj : ops[j]? = some oj) (hap : oi.apart ops oj = true)
  (hsi : ∀ cs b, oi.op ≠ .select cs b) (hsj : ∀ cs b, oj.op ≠ .select cs b) {K : Act → World → Prop} {a : Act} {w : World}
  (hy : YieldsE S P ops w oi v a) (h : eOp true S P ops j K (a.put oi.dst v) w) :
  eOp true S P ops j (fun a' w' => YieldsE S P ops w' oi v a' ∧ K (a'.put oi.dst v) w') a w := by
 obtain ⟨h1, h2, h3⟩ := Oper.apart_spec hap
 have keep : ∀ (a : Act) (w w1 : World), YieldsE S P ops w oi v a → Keep S w w1 → ∀ u, YieldsE S P ops w1 oi v (a.put oj.dst u) := fun a w w1 hy hb u =>
  hy.of_same hb (execOp_put oi hsi a oj.dst u h3) (wanted_put oi a oj.dst u h3)
 have keepD : ∀ d, YieldsE S P ops w oi v { a with defers := d :: a.defers } := fun d => hy.of_same (Keep.refl _ _) rfl rfl
 unfold eOp at *
 simp only [hj] at *
 rw [wanted_put oj a oi.dst v h1] at h
 split
 ·rename_i hw
  simp only [hw, if_true] at h
  unfold Oper.wp at *
  rw [execOp_put oj hsj a oi.dst v h1] at h
  generalize (execOp a.eval oj).run P w = r at *
  cases r with
  | ok n w' =>
   cases n <;> simp only [Oper.upon] at h ⊢
   case value u => exact ⟨fun _ => h.1 trivial, keep a _ _ hy (h.1 trivial) u, by rw [← Act.put_comm a v u h2]; exact h.2⟩
   case skip => exact ⟨fun _ => h.1 trivial, keep a _ _ hy (h.1 trivial) _, by rw [← Act.put_comm a v undef h2]; exact h.2⟩
   case defer d =>
    refine ⟨fun _ => h.1 trivial, keep _ _ _ (keepD d) (h.1 trivial) _, ?_⟩
    rw [← Act.put_comm _ v undef h2, ← Act.put_defers]
    exact h.2
   case enter f args =>
    refine Calls.mono h fun e w'' he => ?_
    cases e with
    | returned u => exact ⟨fun _ => he.1 trivial, keep a _ _ hy (he.1 trivial) u, by rw [← Act.put_comm a v u h2]; exact he.2⟩
    | panicked c => exact he
    | outgrown => exact he
   case row row args => exact Rows.mono h fun u w'' he => ⟨fun _ => he.1 trivial, keep a _ _ hy (he.1 trivial) u, by rw [← Act.put_comm a v u h2]; exact he.2⟩
  | halt x w' =>
   cases x <;> simp only [Oper.upon] at h ⊢
   case panic u => exact h
 ·rename_i hw
  simp only [hw] at h
  exact ⟨keep a _ _ hy (Keep.refl _ _) _, by rw [← Act.put_comm a v undef h2]; exact h⟩

theorem wpE_first {i : Nat} {oi : Oper} {v : Value} (hi : ops[i]? = some oi) (hsel : ∀ (j : Nat) (o : Oper) cs b, ops[j]? = some o → o.op ≠ .select cs b) :
  ∀ (fuel : Nat) (listed : Array Bool) (a : Act) (w : World),
   (∀ j oj, ops[j]? = some oj → j ≠ i → listed.getD j true = false → (∀ e ∈ oj.after, Region.binds .any e = true → e.on ≠ i) → oi.apart ops oj = true) →
   Closed ops listed → i ∈ Region.ready .any ops listed → YieldsE S P ops w oi v a →
   wpE S P ops Q fuel (listed.setIfInBounds i true) (a.put oi.dst v) w → wpE S P ops Q (fuel + 1) listed a w := by
 intro fuel
 induction fuel with
 | zero =>
  intro listed a w _ hcl hr hy H
  refine ⟨fun h => (by rw [h] at hr; cases hr), fun j hj => ?_⟩
  by_cases hji : j = i
  ·subst hji; exact hy.eOp hi H
  ·have := ready_mono hj hji
   rw [H.1] at this
   cases this
 | succ fuel ih =>
  intro listed a w hfree hcl hr hy H
  refine ⟨fun h => (by rw [h] at hr; cases hr), fun j hj => ?_⟩
  by_cases hji : j = i
  ·subst hji; exact hy.eOp hi H
  ·have h1 := H.2 j (ready_mono hj hji)
   have hns : sink ops j = false := by
    cases hs : sink ops j
    ·rfl
    ·exact (sink_last hs hcl hj _ i rfl (Array.getElem?_eq_some_iff.1 hi).1 (Ne.symm hji) (mem_ready.1 hr).1).elim
   rw [hns] at h1 ⊢
   obtain ⟨hjun, oj, hoj, hall⟩ := mem_ready.1 hj
   have hnot : ∀ e ∈ oj.after, Region.binds .any e = true → e.on ≠ i := fun e he hb heq => by
    have h1 := hall e he hb
    have h0 := (mem_ready.1 hr).1
    rw [heq] at h1
    rcases Nat.lt_or_ge i listed.size with h' | h'
    ·simp [h'] at h0 h1; rw [h0] at h1; cases h1
    ·simp [Array.getElem?_eq_none h'] at h1
   have h2 := eOp_put hoj (hfree j oj hoj hji hjun hnot) (fun cs b => hsel i oi cs b hi) (fun cs b => hsel j oj cs b hoj) hy h1
   have hfree' : ∀ k ok, ops[k]? = some ok → k ≠ i → (listed.setIfInBounds j true).getD k true = false →
     (∀ e ∈ ok.after, Region.binds .any e = true → e.on ≠ i) → oi.apart ops ok = true := fun k ok hk hki hun hno => by
    refine hfree k ok hk hki ?_ hno
    by_cases hjk : j = k
    ·subst hjk; exact hjun
    ·rw [getD_set_ne true hjk] at hun; exact hun
   refine eOp_mono (fun a' w' h3 => ih (listed.setIfInBounds j true) a' w' hfree' (closed_step hcl hj) (ready_mono hr (Ne.symm hji)) h3.1 ?_) h2
   rw [Array.setIfInBounds_comm _ _ hji]
   exact h3.2

/-! a region walked as a game: what only looks first; then each of those that may come -/
theorem E_mob {f : Nat} {listed : Array Bool} {a : Act} {w : World} (i : Nat) (o : Oper) (hio : ops[i]? = some o)
  (hc : (closedB ops listed && (Region.noSelect ops && (Region.ready .any ops listed).contains i && Region.free .any ops listed i && lookOp o)) = true)
  (h : wpQuiet P ops (fun w' => ∃ x, w' = kp S w x) (fun a' => wpE S P ops Q f (listed.setIfInBounds i true) a' w) [o] a) : wpE S P ops Q (f + 1) listed a w := by
 simp only [Bool.and_eq_true] at hc
 obtain ⟨hcl, ⟨⟨hs, hr⟩, hf⟩, hk⟩ := hc
 simp only [wpQuiet] at h
 have hy : ∃ v, YieldsE S P ops w o v a ∧ wpE S P ops Q f (listed.setIfInBounds i true) (a.put o.dst v) w := by
  split at h
  ·rename_i hw
   obtain ⟨v, hv, hn⟩ := h
   refine ⟨v, .inl ⟨hw, fun w' hb => ?_⟩, hn⟩
   have h3 := hv w' (keep_kp hb)
   unfold Oper.quietAt at h3
   generalize hrr : (execOp a.eval o).run P w' = r at h3
   cases r with
   | ok n w1 =>
    obtain ⟨u, rfl⟩ := lookOp_spec hk hrr
    simp only [Oper.quietUpon] at h3
    obtain ⟨rfl, rfl⟩ := h3
    rfl
   | halt x w1 => simp only [Oper.quietUpon] at h3
  ·rename_i hw
   exact ⟨undef, .inr ⟨by simpa using hw, rfl⟩, h⟩
 obtain ⟨v, hy, hn⟩ := hy
 exact wpE_first hio (Region.noSelect_spec hs) f listed a w (Region.free_spec hio hf) (closed_of hcl) (by simpa using hr) hy hn
theorem eOp_list {nd : Bool} {i : Nat} {o : Oper} {K : Act → World → Prop} {a : Act} {w : World} (hio : ops[i]? = some o)
  {K' : Act → World → Prop} (hK : ∀ a' w', K' a' w' → (nd = true → Keep S w w') ∧ K a' w')
  (h : wpList P ops (onlyN K') [o] a w) : eOp nd S P ops i K a w := by
 unfold eOp
 simp only [hio]
 unfold wpList at h
 split
 ·rename_i hw
  simp only [hw, if_true] at h
  rcases h with h | ⟨_, _, _, h⟩
  ·unfold Oper.wp at h ⊢
   generalize (execOp a.eval o).run P w = r at *
   cases r with
   | ok n w' =>
    cases n <;> simp only [Oper.upon] at h ⊢
    case value => exact hK _ _ h
    case skip => exact hK _ _ h
    case defer => exact hK _ _ h
    case enter f args =>
     refine Calls.mono h fun e w'' he => ?_
     cases e with
     | returned v => exact hK _ _ he
     | panicked c => exact he
     | outgrown => obtain ⟨_, _, hf⟩ := he; exact (show False from hf).elim
    case row row args => exact Rows.mono h fun _ _ he => hK _ _ he
   | halt x w' =>
    cases x <;> simp only [Oper.upon] at h ⊢
    case panic => exact h
  ·exact (show False from h).elim
 ·rename_i hw
  simp only [hw] at h
  exact (hK _ _ h).2
theorem E_loud1 {f : Nat} {listed : Array Bool} {a : Act} {w : World} (i : Nat) (o : Oper) (hio : ops[i]? = some o) (hr : (Region.ready .any ops listed == [i]) = true)
  (h : wpList P ops (onlyN fun a' w' => Keep S w w' ∧ wpE S P ops Q f (listed.setIfInBounds i true) a' w') [o] a w) : wpE S P ops Q (f + 1) listed a w := by
 simp only [beq_iff_eq] at hr
 refine ⟨fun h0 => (by rw [hr] at h0; cases h0), fun j hj => ?_⟩
 rw [hr, List.mem_singleton] at hj
 subst hj
 exact eOp_list hio (fun _ _ h => ⟨fun _ => h.1, h.2⟩) h
/-- the last of all: nothing need be kept -/
theorem E_last {f : Nat} {listed : Array Bool} {a : Act} {w : World} (i : Nat) (o : Oper) (hio : ops[i]? = some o) (hr : (sink ops i && (Region.ready .any ops listed == [i])) = true)
  (h : wpList P ops (onlyN fun a' w' => wpE S P ops Q f (listed.setIfInBounds i true) a' w') [o] a w) : wpE S P ops Q (f + 1) listed a w := by
 simp only [Bool.and_eq_true, beq_iff_eq] at hr
 obtain ⟨hs, hr⟩ := hr
 refine ⟨fun h0 => (by rw [hr] at h0; cases h0), fun j hj => ?_⟩
 rw [hr, List.mem_singleton] at hj
 subst hj
 rw [hs]
 exact eOp_list hio (fun _ _ h => ⟨fun h => (by cases h), h⟩) h
theorem E_loud2 {f : Nat} {listed : Array Bool} {a : Act} {w : World} (i j : Nat) (o o' : Oper) (hio : ops[i]? = some o) (hjo : ops[j]? = some o') (hr : (Region.ready .any ops listed == [i, j]) = true)
  (h : wpList P ops (onlyN fun a' w' => Keep S w w' ∧ wpE S P ops Q f (listed.setIfInBounds i true) a' w') [o] a w)
  (h' : wpList P ops (onlyN fun a' w' => Keep S w w' ∧ wpE S P ops Q f (listed.setIfInBounds j true) a' w') [o'] a w) : wpE S P ops Q (f + 1) listed a w := by
 simp only [beq_iff_eq] at hr
 refine ⟨fun h0 => (by rw [hr] at h0; cases h0), fun k hk => ?_⟩
 rw [hr] at hk
 simp only [List.mem_cons, List.not_mem_nil, or_false] at hk
 rcases hk with rfl | rfl
 ·exact eOp_list hio (fun _ _ h => ⟨fun _ => h.1, h.2⟩) h
 ·exact eOp_list hjo (fun _ _ h => ⟨fun _ => h.1, h.2⟩) h'
theorem E_done {listed : Array Bool} {a : Act} {w : World} (hr : (Region.ready .any ops listed).isEmpty = true) (h : Q a w) : ∀ f, wpE S P ops Q f listed a w
 | 0 => ⟨by simpa using hr, h⟩
 | f + 1 => ⟨fun _ => h, fun i hi => by rw [List.isEmpty_iff.1 hr] at hi; cases hi⟩
theorem wp_region_game (S : Nat → Prop) {id : Nat} {Q' : Exit → Act → World → Prop} {a : Act} {w : World} (hm : P.follows .mixedOrders = true)
  (h : wpE S P ops (fun a' w' => Q' .normal a' w') ops.size (Array.replicate ops.size false) a { w with drawn := w.drawn + 1 }) : (Code.region id ops true).wp P Q' a w :=
 wp_region_any hm (wpAny_of_E (fun _ _ h => h) _ _ _ _ h)
end
end Go.Proofs.YtchoiankeohonaaGreatDoor
