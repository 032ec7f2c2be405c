/-
 Regions that draw their order (as module E), with stores that come behind all that looks: what comes behind the operations of L need keep nothing.; The region game of module E8, more: a move that reads no memory may be taken first, whatever is written.
-/
import Derived.Test.YtchoiankeohonaaGreatDoorZInlineAll01
import Derived.Test.YtchoiankeohonaaGreatDoorZInlineAll07

set_option linter.all false
namespace Go.Proofs.YtchoiankeohonaaGreatDoor
open Go Go.RowKit
set_option linter.unusedVariables false

section
variable {P : Program} {ops : Array Oper} {Q : Act → World → Prop} {S : Nat → Prop} {L : List Nat}
/-- what an operation waits for -/
def afterOn (ops : Array Oper) (k : Nat) : List Nat := ((ops[k]?).map fun o => (o.after.toList.filter fun e => Region.binds .any e).map fun e => e.on).getD []
def ancStep (ops : Array Oper) (m : Array Bool) (k : Nat) : Array Bool := if m.getD k false = true then (afterOn ops k).foldl (fun m x => m.setIfInBounds x true) m else m
def anc (ops : Array Oper) (j : Nat) : Array Bool := (List.range ops.size).reverse.foldl (ancStep ops) ((Array.replicate ops.size false).setIfInBounds j true)
/-- all operations of L come before it -/
def late (L : List Nat) (ops : Array Oper) (j : Nat) : Bool := L.all fun i => i == j || (anc ops j).getD i false
theorem getD_ft {l : Array Bool} {k : Nat} (h : l.getD k false = true) : l.getD k true = true := by
 rcases Nat.lt_or_ge k l.size with q | q
 ·simp [q] at h ⊢; exact h
 ·simp [Array.getElem?_eq_none q] at h
theorem afterOn_mem {k x : Nat} (h : x ∈ afterOn ops k) : ∃ o, ops[k]? = some o ∧ ∃ e ∈ o.after, Region.binds .any e = true ∧ e.on = x := by
 unfold afterOn at h
 cases ho : ops[k]? with
 | none => rw [ho] at h; simp at h
 | some o =>
  rw [ho] at h
  simp only [Option.map_some, Option.getD_some, List.mem_map, List.mem_filter, Array.mem_toList_iff] at h
  obtain ⟨e, ⟨h1, h2⟩, h3⟩ := h
  exact ⟨o, rfl, e, h1, h2, h3⟩
theorem getD_setT {m : Array Bool} {x k : Nat} (h : (m.setIfInBounds x true).getD k false = true) : k = x ∨ m.getD k false = true := by
 by_cases e : k = x
 ·exact .inl e
 ·right
  rw [getD_set_ne false (fun q => e q.symm)] at h
  exact h
theorem anc_ok {listed : Array Bool} {j : Nat} (hc : Closed ops listed) (hj : j ∈ Region.ready .any ops listed) : ∀ (l : List Nat) (m : Array Bool), (∀ k, m.getD k false = true → k = j ∨ listed.getD k false = true) → ∀ k, (l.foldl (ancStep ops) m).getD k false = true → k = j ∨ listed.getD k false = true
 | [], m, h => h
 | x :: l, m, h => by
  refine anc_ok hc hj l (ancStep ops m x) fun k hk => ?_
  unfold ancStep at hk
  split at hk
  ·rename_i hx
   have hin : ∀ y ∈ afterOn ops x, listed.getD y false = true := fun y hy => by
    obtain ⟨o, ho, e, he, hb, rfl⟩ := afterOn_mem hy
    rcases h x hx with rfl | hl
    ·obtain ⟨-, o', ho', hall⟩ := mem_ready.1 hj
     rw [ho] at ho'
     cases ho'
     exact hall e he hb
    ·exact hc x o ho (getD_ft hl) e he hb
   have key : ∀ (ys : List Nat) (m : Array Bool), (∀ y ∈ ys, listed.getD y false = true) → (∀ k, m.getD k false = true → k = j ∨ listed.getD k false = true) → ∀ k, (ys.foldl (fun m x => m.setIfInBounds x true) m).getD k false = true → k = j ∨ listed.getD k false = true := fun ys => by
    induction ys with
    | nil => intro m _ h; exact h
    | cons y ys ih =>
     intro m hy h
     refine ih _ (fun z hz => hy z (List.mem_cons_of_mem _ hz)) fun k hk => ?_
     rcases getD_setT hk with rfl | hk
     ·exact .inr (hy _ List.mem_cons_self)
     ·exact h k hk
   exact key _ m hin h k hk
  ·exact h k hk
theorem late_ready {listed : Array Bool} {i j : Nat} (hs : late L ops j = true) (hc : Closed ops listed) (hj : j ∈ Region.ready .any ops listed) (hi : i ∈ L) (hne : i ≠ j) : listed.getD i false = true := by
 unfold late at hs
 rw [List.all_eq_true] at hs
 have h := hs i hi
 rw [show (i == j) = false by simpa using hne, Bool.false_or] at h
 rcases anc_ok hc hj _ _ (fun k hk => by
  rcases getD_setT hk with rfl | hk
  ·exact .inl rfl
  ·exfalso
   rcases Nat.lt_or_ge k ops.size with q | q
   ·simp [q] at hk
   ·simp [Array.getElem?_eq_none, q] at hk) i h with e | e
 ·exact absurd e hne
 ·exact e
/-- whatever order is picked from here on -/
def wpH (L : List Nat) (S : Nat → Prop) (P : Program) (ops : Array Oper) (Q : Act → World → Prop) : Nat → Array Bool → Act → World → Prop
 | 0, listed, a, w => Region.ready .any ops listed = [] ∧ Q a w
 | f + 1, listed, a, w => (Region.ready .any ops listed = [] → Q a w) ∧ ∀ i ∈ Region.ready .any ops listed, eOp (!(late L ops i)) S P ops i (wpH L S P ops Q f (listed.setIfInBounds i true)) a w

theorem wpAny_of_H {Q' : Exit → Act → World → Prop} (hQ : ∀ a w, Q a w → Q' .normal a w) : ∀ (f : Nat) (listed : Array Bool) (a : Act) (w : World), wpH L S P ops Q f listed a w → wpAny P .any ops Q' f listed a w
 | 0, _, _, _, h => ⟨h.1, hQ _ _ h.2⟩
 | f + 1, listed, a, w, h => ⟨fun h0 => hQ _ _ (h.1 h0), fun i hi => by
   have h1 := h.2 i hi
   unfold eOp at h1
   unfold wpOp
   split
   ·rename_i ho; simp only [ho] at h1; exact wpAny_of_H hQ f _ _ _ h1
   ·rename_i o ho
    simp only [ho] at h1
    split
    ·rename_i hw
     simp only [hw, if_true] at h1
     exact .inl (wp_never (fun a' w' h2 => wpAny_of_H hQ f _ _ _ h2.2) h1)
    ·rename_i hw; simp only [hw] at h1; exact wpAny_of_H hQ f _ _ _ h1⟩

theorem wpH_first {i : Nat} (hL : i ∈ L) {oi : Oper} {v : Value} (hi : ops[i]? = some oi) (hsel : ∀ (j : Nat) (o : Oper) cs b, ops[j]? = some o → o.op ≠ .select cs b) :
  ∀ (fuel : Nat) (listed : Array Bool) (a : Act) (w : World),
   (∀ j oj, ops[j]? = some oj → j ≠ i → listed.getD j true = false → (∀ e ∈ oj.after, Region.binds .any e = true → e.on ≠ i) → oi.apart ops oj = true) →
   Closed ops listed → i ∈ Region.ready .any ops listed → YieldsE S P ops w oi v a →
   wpH L S P ops Q fuel (listed.setIfInBounds i true) (a.put oi.dst v) w → wpH L S P ops Q (fuel + 1) listed a w := by
 intro fuel
 induction fuel with
 | zero =>
  intro listed a w _ hcl hr hy H
  refine ⟨fun h => (by rw [h] at hr; cases hr), fun j hj => ?_⟩
  by_cases hji : j = i
  ·subst hji; exact hy.eOp hi H
  ·have := ready_mono hj hji
   rw [H.1] at this
   cases this
 | succ fuel ih =>
  intro listed a w hfree hcl hr hy H
  refine ⟨fun h => (by rw [h] at hr; cases hr), fun j hj => ?_⟩
  by_cases hji : j = i
  ·subst hji; exact hy.eOp hi H
  ·have h1 := H.2 j (ready_mono hj hji)
   have hns : late L ops j = false := by
    cases hs : late L ops j
    ·rfl
    ·exact (getD_both (late_ready hs hcl hj hL (Ne.symm hji)) (mem_ready.1 hr).1).elim
   rw [hns] at h1 ⊢
   obtain ⟨hjun, oj, hoj, hall⟩ := mem_ready.1 hj
   have hnot : ∀ e ∈ oj.after, Region.binds .any e = true → e.on ≠ i := fun e he hb heq => by
    have h1 := hall e he hb
    have h0 := (mem_ready.1 hr).1
    rw [heq] at h1
    rcases Nat.lt_or_ge i listed.size with h' | h'
    ·simp [h'] at h0 h1; rw [h0] at h1; cases h1
    ·simp [Array.getElem?_eq_none h'] at h1
   have h2 := eOp_put hoj (hfree j oj hoj hji hjun hnot) (fun cs b => hsel i oi cs b hi) (fun cs b => hsel j oj cs b hoj) hy h1
   have hfree' : ∀ k ok, ops[k]? = some ok → k ≠ i → (listed.setIfInBounds j true).getD k true = false →
     (∀ e ∈ ok.after, Region.binds .any e = true → e.on ≠ i) → oi.apart ops ok = true := fun k ok hk hki hun hno => by
    refine hfree k ok hk hki ?_ hno
    by_cases hjk : j = k
    ·subst hjk; exact hjun
    ·rw [getD_set_ne true hjk] at hun; exact hun
   refine eOp_mono (fun a' w' h3 => ih (listed.setIfInBounds j true) a' w' hfree' (closed_step hcl hj) (ready_mono hr (Ne.symm hji)) h3.1 ?_) h2
   rw [Array.setIfInBounds_comm _ _ hji]
   exact h3.2

theorem H_mob {f : Nat} {listed : Array Bool} {a : Act} {w : World} (i : Nat) (o : Oper) (hL : i ∈ L) (hio : ops[i]? = some o)
  (hc : (closedB ops listed && (Region.noSelect ops && (Region.ready .any ops listed).contains i && Region.free .any ops listed i && (lookOp o || lookB o))) = true)
  (h : wpQuiet P ops (fun w' => ∃ x, w' = kp S w x) (fun a' => wpH L S P ops Q f (listed.setIfInBounds i true) a' w) [o] a) : wpH L S P ops Q (f + 1) listed a w := by
 simp only [Bool.and_eq_true] at hc
 obtain ⟨hcl, ⟨⟨hs, hr⟩, hf⟩, hk⟩ := hc
 simp only [wpQuiet] at h
 have hy : ∃ v, YieldsE S P ops w o v a ∧ wpH L S P ops Q f (listed.setIfInBounds i true) (a.put o.dst v) w := by
  split at h
  ·rename_i hw
   obtain ⟨v, hv, hn⟩ := h
   refine ⟨v, .inl ⟨hw, fun w' hb => ?_⟩, hn⟩
   have h3 := hv w' (keep_kp hb)
   unfold Oper.quietAt at h3
   generalize hrr : (execOp a.eval o).run P w' = r at h3
   cases r with
   | ok n w1 =>
    have hu : ∃ v, n = .value v := by
     rw [Bool.or_eq_true] at hk
     rcases hk with hk | hk
     ·exact lookOp_spec hk hrr
     ·exact lookB_spec hk hrr
    obtain ⟨u, rfl⟩ := hu
    simp only [Oper.quietUpon] at h3
    obtain ⟨rfl, rfl⟩ := h3
    rfl
   | halt x w1 => simp only [Oper.quietUpon] at h3
  ·rename_i hw
   exact ⟨undef, .inr ⟨by simpa using hw, rfl⟩, h⟩
 obtain ⟨v, hy, hn⟩ := hy
 exact wpH_first hL hio (Region.noSelect_spec hs) f listed a w (Region.free_spec hio hf) (closed_of hcl) (by simpa using hr) hy hn
theorem H_mobs : ∀ (is : List Nat) (n : Nat) (listed : Array Bool) (a : Act) (w : World), (is.all (fun i => L.contains i) && (decide (is.length ≤ n) && movesOk lookJ ops is listed)) = true →
  wpQuiet P ops (fun w' => ∃ x, w' = kp S w x) (fun a' => wpH L S P ops Q (n - is.length) (listAll is listed) a' w) (is.map fun i => (ops[i]?).getD opD) a → wpH L S P ops Q n listed a w
 | [], n, listed, a, w, _, h => h
 | i :: is, n, listed, a, w, hc, h => by
  simp only [Bool.and_eq_true, decide_eq_true_eq, movesOk, List.all_cons] at hc
  obtain ⟨⟨hLi, hLs⟩, hl, ⟨h1, ⟨⟨h2, h3⟩, h4⟩, h5⟩, h6⟩ := hc
  cases n with
  | zero => exact absurd hl (by simp)
  | succ n =>
   cases ho : ops[i]? with
   | none => rw [ho] at h5; cases h5
   | some o =>
    rw [ho] at h5
    have h5 : lookJ o = true := h5
    refine H_mob i o (by simpa using hLi) ho (by simp only [Bool.and_eq_true]; exact ⟨h1, ⟨⟨h2, h3⟩, h4⟩, h5⟩) ?_
    rw [List.map_cons, ho] at h
    refine quiet_mono (fun a' h' => ?_) (quiet_one h)
    refine H_mobs is n _ a' w (by simp only [Bool.and_eq_true, decide_eq_true_eq]; exact ⟨hLs, by simpa using hl, h6⟩) ?_
    have e : n + 1 - (i :: is).length = n - is.length := by simp
    rw [e] at h'
    exact h'
theorem H_loud1 {f : Nat} {listed : Array Bool} {a : Act} {w : World} (i : Nat) (o : Oper) (hio : ops[i]? = some o) (hr : (Region.ready .any ops listed == [i]) = true)
  (h : wpList P ops (onlyN fun a' w' => Keep S w w' ∧ wpH L S P ops Q f (listed.setIfInBounds i true) a' w') [o] a w) : wpH L S P ops Q (f + 1) listed a w := by
 simp only [beq_iff_eq] at hr
 refine ⟨fun h0 => (by rw [hr] at h0; cases h0), fun j hj => ?_⟩
 rw [hr, List.mem_singleton] at hj
 subst hj
 exact eOp_list hio (fun _ _ h => ⟨fun _ => h.1, h.2⟩) h
/-- the last of all: nothing need be kept -/
theorem H_late {f : Nat} {listed : Array Bool} {a : Act} {w : World} (i : Nat) (o : Oper) (hio : ops[i]? = some o) (hr : (late L ops i && (Region.ready .any ops listed == [i])) = true)
  (h : wpList P ops (onlyN fun a' w' => wpH L S P ops Q f (listed.setIfInBounds i true) a' w') [o] a w) : wpH L S P ops Q (f + 1) listed a w := by
 simp only [Bool.and_eq_true, beq_iff_eq] at hr
 obtain ⟨hs, hr⟩ := hr
 refine ⟨fun h0 => (by rw [hr] at h0; cases h0), fun j hj => ?_⟩
 rw [hr, List.mem_singleton] at hj
 subst hj
 rw [hs]
 exact eOp_list hio (fun _ _ h => ⟨fun h => (by cases h), h⟩) h
theorem H_done {listed : Array Bool} {a : Act} {w : World} (hr : (Region.ready .any ops listed).isEmpty = true) (h : Q a w) : ∀ f, wpH L S P ops Q f listed a w
 | 0 => ⟨by simpa using hr, h⟩
 | f + 1 => ⟨fun _ => h, fun i hi => by rw [List.isEmpty_iff.1 hr] at hi; cases hi⟩
theorem wp_region_late (L : List Nat) (S : Nat → Prop) {id : Nat} {Q' : Exit → Act → World → Prop} {a : Act} {w : World} (hm : P.follows .mixedOrders = true)
  (h : wpH L S P ops (fun a' w' => Q' .normal a' w') ops.size (Array.replicate ops.size false) a { w with drawn := w.drawn + 1 }) : (Code.region id ops true).wp P Q' a w :=
 wp_region_any hm (wpAny_of_H (fun _ _ h => h) _ _ _ _ h)
end
end Go.Proofs.YtchoiankeohonaaGreatDoor

set_option linter.all false
namespace Go.Proofs.YtchoiankeohonaaGreatDoor
open Go Go.RowKit
set_option linter.unusedVariables false

def noS : Nat → Prop := fun _ => False
section
variable {P : Program} {ops : Array Oper} {Q : Act → World → Prop} {S : Nat → Prop} {L : List Nat}
theorem keep_noS (w w' : World) : Keep noS w w' := fun _ _ h => h.elim
theorem eOp_noS {nd : Bool} {j : Nat} {K : Act → World → Prop} {a : Act} {w : World} (h : eOp nd S P ops j K a w) : eOp true noS P ops j (fun a' w' => (nd = true → Keep S w w') ∧ K a' w') a w := by
 unfold eOp at *
 split
 ·rename_i ho
  simp only [ho] at h
  exact ⟨fun _ => Keep.refl _ _, h⟩
 ·rename_i o ho
  simp only [ho] at h
  split
  ·rename_i hw
   simp only [hw, if_true] at h
   exact wp_never (fun a' w' h2 => ⟨fun _ => keep_noS _ _, h2⟩) h
  ·rename_i hw
   simp only [hw] at h
   exact ⟨fun _ => Keep.refl _ _, h⟩
theorem eOp_ofS {nd : Bool} {j : Nat} {K : Act → World → Prop} {a : Act} {w : World} (h : eOp true noS P ops j (fun a' w' => (nd = true → Keep S w w') ∧ K a' w') a w) : eOp nd S P ops j K a w := by
 unfold eOp at *
 split
 ·rename_i ho
  simp only [ho] at h
  exact h.2
 ·rename_i o ho
  simp only [ho] at h
  split
  ·rename_i hw
   simp only [hw, if_true] at h
   exact wp_never (fun a' w' h2 => h2.2) h
  ·rename_i hw
   simp only [hw] at h
   exact h.2
theorem eOp_pure {nd : Bool} {j : Nat} {oi oj : Oper} {v : Value} (hj : ops[j]? = some oj) (hap : oi.apart ops oj = true)
  (hsi : ∀ cs b, oi.op ≠ .select cs b) (hsj : ∀ cs b, oj.op ≠ .select cs b) {K : Act → World → Prop} {a : Act} {w : World}
  (hy : YieldsE noS P ops w oi v a) (h : eOp nd S P ops j K (a.put oi.dst v) w) :
  eOp nd S P ops j (fun a' w' => YieldsE noS P ops w' oi v a' ∧ K (a'.put oi.dst v) w') a w := by
 have h1 := eOp_put hj hap hsi hsj hy (eOp_noS h)
 exact eOp_ofS (eOp_mono (fun a' w' h2 => ⟨h2.2.1, h2.1, h2.2.2⟩) h1)
theorem wpH_pure {i : Nat} {oi : Oper} {v : Value} (hi : ops[i]? = some oi) (hsel : ∀ (j : Nat) (o : Oper) cs b, ops[j]? = some o → o.op ≠ .select cs b) :
  ∀ (fuel : Nat) (listed : Array Bool) (a : Act) (w : World),
   (∀ j oj, ops[j]? = some oj → j ≠ i → listed.getD j true = false → (∀ e ∈ oj.after, Region.binds .any e = true → e.on ≠ i) → oi.apart ops oj = true) →
   Closed ops listed → i ∈ Region.ready .any ops listed → YieldsE noS P ops w oi v a →
   wpH L S P ops Q fuel (listed.setIfInBounds i true) (a.put oi.dst v) w → wpH L S P ops Q (fuel + 1) listed a w := by
 intro fuel
 have hself : ∀ {nd : Bool} {a : Act} {w : World} {K : Act → World → Prop}, YieldsE noS P ops w oi v a → K (a.put oi.dst v) w → eOp nd S P ops i K a w := fun {nd a w K} hy hK =>
  eOp_ofS (YieldsE.eOp hi hy ⟨fun _ => Keep.refl _ _, hK⟩)
 induction fuel with
 | zero =>
  intro listed a w _ hcl hr hy H
  refine ⟨fun h => (by rw [h] at hr; cases hr), fun j hj => ?_⟩
  by_cases hji : j = i
  ·subst hji; exact hself hy H
  ·have := ready_mono hj hji
   rw [H.1] at this
   cases this
 | succ fuel ih =>
  intro listed a w hfree hcl hr hy H
  refine ⟨fun h => (by rw [h] at hr; cases hr), fun j hj => ?_⟩
  by_cases hji : j = i
  ·subst hji; exact hself hy H
  ·have h1 := H.2 j (ready_mono hj hji)
   obtain ⟨hjun, oj, hoj, hall⟩ := mem_ready.1 hj
   have hnot : ∀ e ∈ oj.after, Region.binds .any e = true → e.on ≠ i := fun e he hb heq => by
    have h1 := hall e he hb
    have h0 := (mem_ready.1 hr).1
    rw [heq] at h1
    rcases Nat.lt_or_ge i listed.size with h' | h'
    ·simp [h'] at h0 h1; rw [h0] at h1; cases h1
    ·simp [Array.getElem?_eq_none h'] at h1
   have h2 := eOp_pure hoj (hfree j oj hoj hji hjun hnot) (fun cs b => hsel i oi cs b hi) (fun cs b => hsel j oj cs b hoj) hy h1
   have hfree' : ∀ k ok, ops[k]? = some ok → k ≠ i → (listed.setIfInBounds j true).getD k true = false →
     (∀ e ∈ ok.after, Region.binds .any e = true → e.on ≠ i) → oi.apart ops ok = true := fun k ok hk hki hun hno => by
    refine hfree k ok hk hki ?_ hno
    by_cases hjk : j = k
    ·subst hjk; exact hjun
    ·rw [getD_set_ne true hjk] at hun; exact hun
   refine eOp_mono (fun a' w' h3 => ih (listed.setIfInBounds j true) a' w' hfree' (closed_step hcl hj) (ready_mono hr (Ne.symm hji)) h3.1 ?_) h2
   rw [Array.setIfInBounds_comm _ _ hji]
   exact h3.2
theorem H_pure {f : Nat} {listed : Array Bool} {a : Act} {w : World} (i : Nat) (o : Oper) (hio : ops[i]? = some o)
  (hc : (closedB ops listed && (Region.noSelect ops && (Region.ready .any ops listed).contains i && Region.free .any ops listed i && (lookOp o || lookB o))) = true)
  (h : wpQuiet P ops (fun w' => ∃ x, w' = kp noS w x) (fun a' => wpH L S P ops Q f (listed.setIfInBounds i true) a' w) [o] a) : wpH L S P ops Q (f + 1) listed a w := by
 simp only [Bool.and_eq_true] at hc
 obtain ⟨hcl, ⟨⟨hs, hr⟩, hf⟩, hk⟩ := hc
 simp only [wpQuiet] at h
 have hy : ∃ v, YieldsE noS P ops w o v a ∧ wpH L S P ops Q f (listed.setIfInBounds i true) (a.put o.dst v) w := by
  split at h
  ·rename_i hw
   obtain ⟨v, hv, hn⟩ := h
   refine ⟨v, .inl ⟨hw, fun w' hb => ?_⟩, hn⟩
   have h3 := hv w' (keep_kp hb)
   unfold Oper.quietAt at h3
   generalize hrr : (execOp a.eval o).run P w' = r at h3
   cases r with
   | ok n w1 =>
    have hu : ∃ v, n = .value v := by
     rw [Bool.or_eq_true] at hk
     rcases hk with hk | hk
     ·exact lookOp_spec hk hrr
     ·exact lookB_spec hk hrr
    obtain ⟨u, rfl⟩ := hu
    simp only [Oper.quietUpon] at h3
    obtain ⟨rfl, rfl⟩ := h3
    rfl
   | halt x w1 => simp only [Oper.quietUpon] at h3
  ·rename_i hw
   exact ⟨undef, .inr ⟨by simpa using hw, rfl⟩, h⟩
 obtain ⟨v, hy, hn⟩ := hy
 exact wpH_pure hio (Region.noSelect_spec hs) f listed a w (Region.free_spec hio hf) (closed_of hcl) (by simpa using hr) hy hn
theorem H_pures : ∀ (is : List Nat) (n : Nat) (listed : Array Bool) (a : Act) (w : World), (decide (is.length ≤ n) && movesOk lookJ ops is listed) = true →
  wpQuiet P ops (fun w' => ∃ x, w' = kp noS w x) (fun a' => wpH L S P ops Q (n - is.length) (listAll is listed) a' w) (is.map fun i => (ops[i]?).getD opD) a → wpH L S P ops Q n listed a w
 | [], n, listed, a, w, _, h => h
 | i :: is, n, listed, a, w, hc, h => by
  simp only [Bool.and_eq_true, decide_eq_true_eq, movesOk] at hc
  obtain ⟨hl, ⟨h1, ⟨⟨h2, h3⟩, h4⟩, h5⟩, h6⟩ := hc
  cases n with
  | zero => exact absurd hl (by simp)
  | succ n =>
   cases ho : ops[i]? with
   | none => rw [ho] at h5; cases h5
   | some o =>
    rw [ho] at h5
    have h5 : lookJ o = true := h5
    refine H_pure i o ho (by simp only [Bool.and_eq_true]; exact ⟨h1, ⟨⟨h2, h3⟩, h4⟩, h5⟩) ?_
    rw [List.map_cons, ho] at h
    refine quiet_mono (fun a' h' => ?_) (quiet_one h)
    refine H_pures is n _ a' w (by simp only [Bool.and_eq_true, decide_eq_true_eq]; exact ⟨by simpa using hl, h6⟩) ?_
    have e : n + 1 - (i :: is).length = n - is.length := by simp
    rw [e] at h'
    exact h'
theorem H_loud2 {f : Nat} {listed : Array Bool} {a : Act} {w : World} (i j : Nat) (o o' : Oper) (hio : ops[i]? = some o) (hjo : ops[j]? = some o') (hr : (Region.ready .any ops listed == [i, j]) = true)
  (h : wpList P ops (onlyN fun a' w' => Keep S w w' ∧ wpH L S P ops Q f (listed.setIfInBounds i true) a' w') [o] a w) (h' : wpList P ops (onlyN fun a' w' => Keep S w w' ∧ wpH L S P ops Q f (listed.setIfInBounds j true) a' w') [o'] a w) : wpH L S P ops Q (f + 1) listed a w := by
 simp only [beq_iff_eq] at hr
 refine ⟨fun h0 => (by rw [hr] at h0; cases h0), fun k hk => ?_⟩
 rw [hr] at hk
 rcases List.mem_cons.1 hk with rfl | hk
 ·exact eOp_list hio (fun _ _ h => ⟨fun _ => h.1, h.2⟩) h
 ·rw [List.mem_singleton] at hk
  subst hk
  exact eOp_list hjo (fun _ _ h => ⟨fun _ => h.1, h.2⟩) h'
end
end Go.Proofs.YtchoiankeohonaaGreatDoor
