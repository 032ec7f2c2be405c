/-
 The game of a drawn region, where lengths and greatest numbers may be taken first too.; Regions that draw their order, with calls that make new memory: such a call may stand at any place, since all that follows is shown for every world that has grown out of the one at hand.
-/
import Derived.Test.YtchoiankeohonaaGreatDoorZInlineAll00

set_option linter.all false
namespace Go.Proofs.YtchoiankeohonaaGreatDoor
open Go Go.RowKit

def lookB (o : Oper) : Bool :=
 match o.op with
 | .call c => (match c.callee with | .builtin .len | .builtin .max => true | _ => false)
 | _ => false
theorem lookB_spec {P : Program} {o : Oper} {ρ : Operand → Value} {w : World} {n : Next} {w' : World} (h : lookB o = true) (hr : (execOp ρ o).run P w = .ok n w') : ∃ v, n = .value v := by
 unfold lookB at h
 split at h
 ·rename_i c hc
  split at h
  ·rename_i hb
   simp only [execOp, hc, resolve, hb, Sem.run_bind, Sem.run_pure, Result.andThen_ok, invoke] at hr
   exact bind_value hr
  ·rename_i hb
   simp only [execOp, hc, resolve, hb, Sem.run_bind, Sem.run_pure, Result.andThen_ok, invoke] at hr
   exact bind_value hr
  ·cases h
 ·cases h
section
variable {P : Program} {ops : Array Oper} {Q : Act → World → Prop} {S : Nat → Prop}
theorem E_mob2 {f : Nat} {listed : Array Bool} {a : Act} {w : World} (i : Nat) (o : Oper) (hio : ops[i]? = some o)
  (hc : (closedB ops listed && (Region.noSelect ops && (Region.ready .any ops listed).contains i && Region.free .any ops listed i && (lookOp o || lookB o))) = true)
  (h : wpQuiet P ops (fun w' => ∃ x, w' = kp S w x) (fun a' => wpE S P ops Q f (listed.setIfInBounds i true) a' w) [o] a) : wpE S P ops Q (f + 1) listed a w := by
 simp only [Bool.and_eq_true] at hc
 obtain ⟨hcl, ⟨⟨hs, hr⟩, hf⟩, hk⟩ := hc
 simp only [wpQuiet] at h
 have hy : ∃ v, YieldsE S P ops w o v a ∧ wpE S P ops Q f (listed.setIfInBounds i true) (a.put o.dst v) w := by
  split at h
  ·rename_i hw
   obtain ⟨v, hv, hn⟩ := h
   refine ⟨v, .inl ⟨hw, fun w' hb => ?_⟩, hn⟩
   have h3 := hv w' (keep_kp hb)
   unfold Oper.quietAt at h3
   generalize hrr : (execOp a.eval o).run P w' = r at h3
   cases r with
   | ok n w1 =>
    have hu : ∃ v, n = .value v := by
     rw [Bool.or_eq_true] at hk
     rcases hk with hk | hk
     ·exact lookOp_spec hk hrr
     ·exact lookB_spec hk hrr
    obtain ⟨u, rfl⟩ := hu
    simp only [Oper.quietUpon] at h3
    obtain ⟨rfl, rfl⟩ := h3
    rfl
   | halt x w1 => simp only [Oper.quietUpon] at h3
  ·rename_i hw
   exact ⟨undef, .inr ⟨by simpa using hw, rfl⟩, h⟩
 obtain ⟨v, hy, hn⟩ := hy
 exact wpE_first hio (Region.noSelect_spec hs) f listed a w (Region.free_spec hio hf) (closed_of hcl) (by simpa using hr) hy hn
end
end Go.Proofs.YtchoiankeohonaaGreatDoor

set_option linter.all false
namespace Go.Proofs.YtchoiankeohonaaGreatDoor
open Go Go.RowKit
set_option linter.unusedVariables false

/-- what can be read in the blocks of S stays -/
def KeepX (S : Nat → Prop) (w w' : World) : Prop := ∀ b o v, S b → w.cell? ⟨b, o, none⟩ = some v → w'.cell? ⟨b, o, none⟩ = some v
theorem KeepX.refl (S : Nat → Prop) (w : World) : KeepX S w w := fun _ _ _ _ h => h
theorem KeepX.trans {S : Nat → Prop} {a b c : World} (h : KeepX S a b) (k : KeepX S b c) : KeepX S a c := fun x o v hx hv => k x o v hx (h x o v hx hv)
theorem KeepX.below {S : Nat → Prop} {w w' : World} (h : Below w.heap.size w w') : KeepX S w w' := fun b o v _ hv => (h.cell (p := ⟨b, o, none⟩) (World.block_lt_of_cell? w ⟨b, o, none⟩ hv)).trans hv
open Classical in
/-- a world that keeps what can be read in the blocks of S -/
noncomputable def kx (S : Nat → Prop) (w x : World) : World := if KeepX S w x then x else w
theorem kx_keep (S : Nat → Prop) (w x : World) : KeepX S w (kx S w x) := by
 unfold kx; split
 ·assumption
 ·exact KeepX.refl _ _
theorem keep_kx {S : Nat → Prop} {w x : World} (h : KeepX S w x) : ∃ y, x = kx S w y := ⟨x, by unfold kx; rw [if_pos h]⟩
noncomputable def kxRest (S : Nat → Prop) (w x : World) (a : Addr) : Option Value := (kx S w x).cell? a
theorem cell?_kx {S : Nat → Prop} {w x : World} {b o : Nat} (h : S b) : (kx S w x).cell? ⟨b, o, none⟩ = (w.cell? ⟨b, o, none⟩).or (kxRest S w x ⟨b, o, none⟩) := by
 unfold kxRest
 cases hc : w.cell? ⟨b, o, none⟩ with
 | none => simp
 | some v => rw [kx_keep S w x b o v h hc]; rfl
attribute [go_sem] cell?_kx

section
variable {P : Program} {ops : Array Oper} {Q : Act → World → Prop} {S : Nat → Prop}

def eOpX (nd : Bool) (S : Nat → Prop) (P : Program) (ops : Array Oper) (i : Nat) (K : Act → World → Prop) (a : Act) (w : World) : Prop :=
 match ops[i]? with
 | none => K a w
 | some o => if Region.wanted o (yielded ops a.tmps) then o.wp P a w (fun a' w' => (nd = true → KeepX S w w') ∧ K a' w') never else K (a.put o.dst undef) w

def wpJ (S : Nat → Prop) (P : Program) (ops : Array Oper) (Q : Act → World → Prop) : Nat → Array Bool → Act → World → Prop
 | 0, listed, a, w => Region.ready .any ops listed = [] ∧ Q a w
 | f + 1, listed, a, w => (Region.ready .any ops listed = [] → Q a w) ∧ ∀ i ∈ Region.ready .any ops listed, eOpX (!(sink ops i)) S P ops i (fun a' w' => ∀ w'', Below w'.heap.size w' w'' → wpJ S P ops Q f (listed.setIfInBounds i true) a' w'') a w
/-- the same, for every world that has grown out of one -/
def wpJs (S : Nat → Prop) (P : Program) (ops : Array Oper) (Q : Act → World → Prop) (f : Nat) (listed : Array Bool) (a : Act) (w : World) : Prop :=
 ∀ w', Below w.heap.size w w' → wpJ S P ops Q f listed a w'

theorem eOpX_mono {nd : Bool} {i : Nat} {a : Act} {w : World} {K K' : Act → World → Prop} (h : ∀ a w, K a w → K' a w) (hh : eOpX nd S P ops i K a w) : eOpX nd S P ops i K' a w := by
 unfold eOpX at *
 split
 ·exact h _ _ (by simpa [*] using hh)
 ·rename_i o ho
  simp only [ho] at hh
  split
  ·rename_i hw; simp only [hw, if_true] at hh; exact wp_never (fun a w h' => ⟨h'.1, h _ _ h'.2⟩) hh
  ·rename_i hw; simp only [hw] at hh; exact h _ _ hh
theorem wpAny_of_J {Q' : Exit → Act → World → Prop} (hQ : ∀ a w, Q a w → Q' .normal a w) : ∀ (f : Nat) (listed : Array Bool) (a : Act) (w : World), wpJ S P ops Q f listed a w → wpAny P .any ops Q' f listed a w
 | 0, _, _, _, h => ⟨h.1, hQ _ _ h.2⟩
 | f + 1, listed, a, w, h => ⟨fun h0 => hQ _ _ (h.1 h0), fun i hi => by
   have h1 := h.2 i hi
   unfold eOpX at h1
   unfold wpOp
   split
   ·rename_i ho; simp only [ho] at h1; exact wpAny_of_J hQ f _ _ _ (h1 _ (Below.refl _ _))
   ·rename_i o ho
    simp only [ho] at h1
    split
    ·rename_i hw
     simp only [hw, if_true] at h1
     exact .inl (wp_never (fun a' w' h2 => wpAny_of_J hQ f _ _ _ (h2.2 _ (Below.refl _ _))) h1)
    ·rename_i hw; simp only [hw] at h1; exact wpAny_of_J hQ f _ _ _ (h1 _ (Below.refl _ _))⟩

/-- the operation yields one value and may make new memory, now and in every world that keeps what this one has -/
def YieldsJ (S : Nat → Prop) (P : Program) (ops : Array Oper) (w : World) (o : Oper) (v : Value) (a : Act) : Prop :=
 (Region.wanted o (yielded ops a.tmps) = true ∧ ∀ w', KeepX S w w' → o.wp P a w' (fun a' w'' => a' = a.put o.dst v ∧ Below w'.heap.size w' w'') never) ∨
 (Region.wanted o (yielded ops a.tmps) = false ∧ v = undef)
theorem put_inj_defers {a : Act} {dst : Option Tmp} {v u : Value} {ds : List Deferred} (h : a.put dst v = a.put dst u) : ({ a with defers := ds } : Act).put dst v = ({ a with defers := ds } : Act).put dst u := by
 cases dst with
 | none => rfl
 | some d =>
  simp only [Act.put, Act.mk.injEq] at h ⊢
  exact ⟨h.1, trivial⟩
theorem wp_at {o : Oper} {a b : Act} {v : Value} {w : World} {R : World → Prop} (he : execOp b.eval o = execOp a.eval o) (hp : ∀ u, a.put o.dst u = a.put o.dst v → b.put o.dst u = b.put o.dst v)
  (h : o.wp P a w (fun a' w' => a' = a.put o.dst v ∧ R w') never) : o.wp P b w (fun a' w' => a' = b.put o.dst v ∧ R w') never := by
 unfold Oper.wp at *
 rw [he]
 generalize (execOp a.eval o).run P w = r at *
 cases r with
 | ok n w' =>
  cases n <;> simp only [Oper.upon] at h ⊢
  case value u => exact ⟨hp u h.1, h.2⟩
  case skip => exact ⟨hp _ h.1, h.2⟩
  case defer d =>
   exfalso
   have h1 := congrArg (fun x : Act => x.defers.length) h.1
   cases hd : o.dst <;> simp [hd, Act.put] at h1
  case enter f args =>
   refine Calls.mono h fun e w'' he => ?_
   cases e with
   | returned u => exact ⟨hp u he.1, he.2⟩
   | panicked c => exact he
   | outgrown => exact he
  case row row args => exact Rows.mono h fun u w'' he => ⟨hp u he.1, he.2⟩
 | halt x w' =>
  cases x <;> simp only [Oper.upon] at h ⊢
  case panic u => exact h
theorem YieldsJ.of_put {oi oj : Oper} {v u : Value} {a : Act} {w w1 : World} (hsi : ∀ cs b, oi.op ≠ .select cs b) (h2 : ∀ d, oi.dst = some d → oj.dst ≠ some d) (h3 : ∀ d, oj.dst = some d → d ∉ oi.looksAt ops)
  (hy : YieldsJ S P ops w oi v a) (hb : KeepX S w w1) : YieldsJ S P ops w1 oi v (a.put oj.dst u) := by
 unfold YieldsJ at *
 rw [wanted_put oi a oj.dst u h3]
 rcases hy with ⟨h, k⟩ | h
 ·refine .inl ⟨h, fun w' h' => wp_at (execOp_put oi hsi a oj.dst u h3) (fun x hx => ?_) (k w' (hb.trans h'))⟩
  rw [← Act.put_comm a x u h2, ← Act.put_comm a v u h2, hx]
 ·exact .inr h
theorem YieldsJ.keep {o : Oper} {v : Value} {a : Act} {w w1 : World} (hy : YieldsJ S P ops w o v a) (hb : KeepX S w w1) : YieldsJ S P ops w1 o v a := by
 rcases hy with ⟨h, k⟩ | h
 ·exact .inl ⟨h, fun w' h' => k w' (hb.trans h')⟩
 ·exact .inr h
theorem YieldsJ.defers {o : Oper} {v : Value} {a : Act} {w : World} {ds : List Deferred} (hy : YieldsJ S P ops w o v a) : YieldsJ S P ops w o v { a with defers := ds } := by
 rcases hy with ⟨h, k⟩ | h
 ·exact .inl ⟨h, fun w' h' => wp_at (a := a) rfl (fun x hx => put_inj_defers hx) (k w' h')⟩
 ·exact .inr h
theorem eOpX_put {j : Nat} {oi oj : Oper} {v : Value} (hj : ops[j]? = some oj) (hap : oi.apart ops oj = true)
  (hsi : ∀ cs b, oi.op ≠ .select cs b) (hsj : ∀ cs b, oj.op ≠ .select cs b) {K : Act → World → Prop} {a : Act} {w : World}
  (hy : YieldsJ S P ops w oi v a) (h : eOpX true S P ops j K (a.put oi.dst v) w) :
  eOpX true S P ops j (fun a' w' => YieldsJ S P ops w' oi v a' ∧ K (a'.put oi.dst v) w') a w := by
 obtain ⟨h1, h2, h3⟩ := Oper.apart_spec hap
 unfold eOpX at *
 simp only [hj] at *
 rw [wanted_put oj a oi.dst v h1] at h
 split
 ·rename_i hw
  simp only [hw, if_true] at h
  unfold Oper.wp at *
  rw [execOp_put oj hsj a oi.dst v h1] at h
  generalize (execOp a.eval oj).run P w = r at *
  cases r with
  | ok n w' =>
   cases n <;> simp only [Oper.upon] at h ⊢
   case value u => exact ⟨fun _ => h.1 trivial, hy.of_put hsi h2 h3 (h.1 trivial), by rw [← Act.put_comm a v u h2]; exact h.2⟩
   case skip => exact ⟨fun _ => h.1 trivial, hy.of_put hsi h2 h3 (h.1 trivial), by rw [← Act.put_comm a v undef h2]; exact h.2⟩
   case defer d =>
    refine ⟨fun _ => h.1 trivial, (hy.defers (ds := d :: a.defers)).of_put hsi h2 h3 (h.1 trivial), ?_⟩
    rw [← Act.put_comm _ v undef h2, ← Act.put_defers]
    exact h.2
   case enter f args =>
    refine Calls.mono h fun e w'' he => ?_
    cases e with
    | returned u => exact ⟨fun _ => he.1 trivial, hy.of_put hsi h2 h3 (he.1 trivial), by rw [← Act.put_comm a v u h2]; exact he.2⟩
    | panicked c => exact he
    | outgrown => exact he
   case row row args => exact Rows.mono h fun u w'' he => ⟨fun _ => he.1 trivial, hy.of_put hsi h2 h3 (he.1 trivial), by rw [← Act.put_comm a v u h2]; exact he.2⟩
  | halt x w' =>
   cases x <;> simp only [Oper.upon] at h ⊢
   case panic u => exact h
 ·rename_i hw
  simp only [hw] at h
  exact ⟨hy.of_put hsi h2 h3 (KeepX.refl _ _), by rw [← Act.put_comm a v undef h2]; exact h⟩

theorem wpJ_first {i : Nat} {oi : Oper} {v : Value} (hi : ops[i]? = some oi) (hsel : ∀ (j : Nat) (o : Oper) cs b, ops[j]? = some o → o.op ≠ .select cs b) :
  ∀ (fuel : Nat) (listed : Array Bool) (a : Act) (w : World),
   (∀ j oj, ops[j]? = some oj → j ≠ i → listed.getD j true = false → (∀ e ∈ oj.after, Region.binds .any e = true → e.on ≠ i) → oi.apart ops oj = true) →
   Closed ops listed → i ∈ Region.ready .any ops listed → YieldsJ S P ops w oi v a →
   wpJs S P ops Q fuel (listed.setIfInBounds i true) (a.put oi.dst v) w → wpJ S P ops Q (fuel + 1) listed a w := by
 have own : ∀ (fuel : Nat) (listed : Array Bool) (a : Act) (w : World), YieldsJ S P ops w oi v a → wpJs S P ops Q fuel (listed.setIfInBounds i true) (a.put oi.dst v) w →
   eOpX (!(sink ops i)) S P ops i (fun a' w' => ∀ w'', Below w'.heap.size w' w'' → wpJ S P ops Q fuel (listed.setIfInBounds i true) a' w'') a w := fun fuel listed a w hy H => by
  unfold eOpX
  simp only [hi]
  rcases hy with ⟨h, k⟩ | ⟨h, rfl⟩
  ·simp only [h, if_true]
   refine wp_never (fun a' w' h2 => ⟨fun _ => KeepX.below h2.2, fun w'' h3 => ?_⟩) (k w (KeepX.refl _ _))
   rw [h2.1]
   exact H w'' (h2.2.trans (h3.mono h2.2.size))
  ·simp only [h, Bool.false_eq_true, if_false]
   exact H
 intro fuel
 induction fuel with
 | zero =>
  intro listed a w _ hcl hr hy H
  refine ⟨fun h => (by rw [h] at hr; cases hr), fun j hj => ?_⟩
  by_cases hji : j = i
  ·subst hji; exact own _ _ _ _ hy H
  ·have := ready_mono hj hji
   rw [(H w (Below.refl _ _)).1] at this
   cases this
 | succ fuel ih =>
  intro listed a w hfree hcl hr hy H
  refine ⟨fun h => (by rw [h] at hr; cases hr), fun j hj => ?_⟩
  by_cases hji : j = i
  ·subst hji; exact own _ _ _ _ hy H
  ·have h1 := (H w (Below.refl _ _)).2 j (ready_mono hj hji)
   have hns : sink ops j = false := by
    cases hs : sink ops j
    ·rfl
    ·exact (sink_last hs hcl hj _ i rfl (Array.getElem?_eq_some_iff.1 hi).1 (Ne.symm hji) (mem_ready.1 hr).1).elim
   rw [hns] at h1 ⊢
   obtain ⟨hjun, oj, hoj, hall⟩ := mem_ready.1 hj
   have hnot : ∀ e ∈ oj.after, Region.binds .any e = true → e.on ≠ i := fun e he hb heq => by
    have h1 := hall e he hb
    have h0 := (mem_ready.1 hr).1
    rw [heq] at h1
    exact getD_both h1 h0
   have h2 := eOpX_put hoj (hfree j oj hoj hji hjun hnot) (fun cs b => hsel i oi cs b hi) (fun cs b => hsel j oj cs b hoj) hy h1
   have hfree' : ∀ k ok, ops[k]? = some ok → k ≠ i → (listed.setIfInBounds j true).getD k true = false →
     (∀ e ∈ ok.after, Region.binds .any e = true → e.on ≠ i) → oi.apart ops ok = true := fun k ok hk hki hun hno => by
    refine hfree k ok hk hki ?_ hno
    by_cases hjk : j = k
    ·subst hjk; exact hjun
    ·rw [getD_set_ne true hjk] at hun; exact hun
   refine eOpX_mono (fun a' w' h3 w'' hw'' => ih (listed.setIfInBounds j true) a' w'' hfree' (closed_step hcl hj) (ready_mono hr (Ne.symm hji)) (h3.1.keep (KeepX.below hw'')) ?_) h2
   intro w3 hw3
   rw [Array.setIfInBounds_comm _ _ hji]
   exact h3.2 w3 (hw''.trans (hw3.mono hw''.size))

/-- what only looks, first -/
theorem J_mob {f : Nat} {listed : Array Bool} {a : Act} {w : World} (i : Nat) (o : Oper) (hio : ops[i]? = some o)
  (hc : (closedB ops listed && (Region.noSelect ops && (Region.ready .any ops listed).contains i && Region.free .any ops listed i && (lookOp o || lookB o))) = true)
  (h : wpQuiet P ops (fun w' => ∃ x, w' = kx S w x) (fun a' => wpJs S P ops Q f (listed.setIfInBounds i true) a' w) [o] a) : wpJs S P ops Q (f + 1) listed a w := by
 simp only [Bool.and_eq_true] at hc
 obtain ⟨hcl, ⟨⟨hs, hr⟩, hf⟩, hk⟩ := hc
 simp only [wpQuiet] at h
 have hy : ∃ v, YieldsJ S P ops w o v a ∧ wpJs S P ops Q f (listed.setIfInBounds i true) (a.put o.dst v) w := by
  split at h
  ·rename_i hw
   obtain ⟨v, hv, hn⟩ := h
   refine ⟨v, .inl ⟨hw, fun w' hb => ?_⟩, hn⟩
   have h3 := hv w' (keep_kx hb)
   unfold Oper.quietAt at h3
   unfold Oper.wp
   generalize hrr : (execOp a.eval o).run P w' = r at h3
   cases r with
   | ok n w1 =>
    have hu : ∃ v, n = .value v := by
     rw [Bool.or_eq_true] at hk
     rcases hk with hk | hk
     ·exact lookOp_spec hk hrr
     ·exact lookB_spec hk hrr
    obtain ⟨u, rfl⟩ := hu
    simp only [Oper.quietUpon] at h3
    obtain ⟨rfl, rfl⟩ := h3
    simp only [Oper.upon]
    exact ⟨trivial, Below.refl _ _⟩
   | halt x w1 => simp only [Oper.quietUpon] at h3
  ·rename_i hw
   exact ⟨undef, .inr ⟨by simpa using hw, rfl⟩, h⟩
 obtain ⟨v, hy, hn⟩ := hy
 exact fun w' hw' => wpJ_first hio (Region.noSelect_spec hs) f listed a w' (Region.free_spec hio hf) (closed_of hcl) (by simpa using hr) (hy.keep (KeepX.below hw')) fun w'' hw'' => hn w'' (hw'.trans (hw''.mono hw'.size))
theorem wp_of_list {o : Oper} {a : Act} {w : World} {K : Act → World → Prop} (hw : Region.wanted o (yielded ops a.tmps) = true) (h : wpList P ops (onlyN K) [o] a w) : o.wp P a w K never := by
 unfold wpList at h
 simp only [hw, if_true] at h
 rcases h with h | ⟨_, _, _, h⟩
 ·unfold Oper.wp at h ⊢
  generalize (execOp a.eval o).run P w = r at *
  cases r with
  | ok n w' =>
   cases n <;> simp only [Oper.upon] at h ⊢
   case value => exact h
   case skip => exact h
   case defer => exact h
   case enter f args =>
    refine Calls.mono h fun e w'' he => ?_
    cases e with
    | returned v => exact he
    | panicked c => exact he
    | outgrown => obtain ⟨_, _, hf⟩ := he; exact (show False from hf).elim
   case row row args => exact Rows.mono h fun _ _ he => he
  | halt x w' =>
   cases x <;> simp only [Oper.upon] at h ⊢
   case panic => exact h
 ·exact (show False from h).elim
/-- a call that answers one value and makes memory at most, first: it stands at any place -/
theorem J_call {f : Nat} {listed : Array Bool} {a : Act} {w : World} (i : Nat) (o : Oper) (v : Value) (hio : ops[i]? = some o)
  (hc : (closedB ops listed && (Region.noSelect ops && (Region.ready .any ops listed).contains i && Region.free .any ops listed i)) = true)
  (hw : Region.wanted o (yielded ops a.tmps) = true)
  (h : ∀ w', KeepX S w w' → wpList P ops (onlyN fun a' w'' => a' = a.put o.dst v ∧ Below w'.heap.size w' w'') [o] a w')
  (hn : wpJs S P ops Q f (listed.setIfInBounds i true) (a.put o.dst v) w) : wpJs S P ops Q (f + 1) listed a w := by
 simp only [Bool.and_eq_true] at hc
 obtain ⟨hcl, ⟨hs, hr⟩, hf⟩ := hc
 have hy : YieldsJ S P ops w o v a := .inl ⟨hw, fun w' hb => wp_of_list hw (h w' hb)⟩
 exact fun w' hw' => wpJ_first hio (Region.noSelect_spec hs) f listed a w' (Region.free_spec hio hf) (closed_of hcl) (by simpa using hr) (hy.keep (KeepX.below hw')) fun w'' hw'' => hn w'' (hw'.trans (hw''.mono hw'.size))
theorem eOpX_list {nd : Bool} {i : Nat} {o : Oper} {K : Act → World → Prop} {a : Act} {w : World} (hio : ops[i]? = some o)
  {K' : Act → World → Prop} (hK : ∀ a' w', K' a' w' → (nd = true → KeepX S w w') ∧ K a' w')
  (h : wpList P ops (onlyN K') [o] a w) : eOpX nd S P ops i K a w := by
 unfold eOpX
 simp only [hio]
 split
 ·rename_i hw
  exact wp_never hK (wp_of_list hw h)
 ·rename_i hw
  unfold wpList at h
  simp only [hw] at h
  exact (hK _ _ h).2
/-- the one that comes next -/
theorem J_loud1 {f : Nat} {listed : Array Bool} {a : Act} {w : World} (i : Nat) (o : Oper) (hio : ops[i]? = some o) (hr : (Region.ready .any ops listed == [i]) = true)
  (h : ∀ w', Below w.heap.size w w' → wpList P ops (onlyN fun a' w1 => KeepX S w' w1 ∧ wpJs S P ops Q f (listed.setIfInBounds i true) a' w1) [o] a w') : wpJs S P ops Q (f + 1) listed a w := by
 simp only [beq_iff_eq] at hr
 refine fun w' hw' => ⟨fun h0 => (by rw [hr] at h0; cases h0), fun j hj => ?_⟩
 rw [hr, List.mem_singleton] at hj
 subst hj
 exact eOpX_list hio (fun _ _ h => ⟨fun _ => h.1, h.2⟩) (h w' hw')
/-- the last of all: nothing need be kept -/
theorem J_last {f : Nat} {listed : Array Bool} {a : Act} {w : World} (i : Nat) (o : Oper) (hio : ops[i]? = some o) (hr : (sink ops i && (Region.ready .any ops listed == [i])) = true)
  (h : ∀ w', Below w.heap.size w w' → wpList P ops (onlyN fun a' w1 => wpJs S P ops Q f (listed.setIfInBounds i true) a' w1) [o] a w') : wpJs S P ops Q (f + 1) listed a w := by
 simp only [Bool.and_eq_true, beq_iff_eq] at hr
 obtain ⟨hs, hr⟩ := hr
 refine fun w' hw' => ⟨fun h0 => (by rw [hr] at h0; cases h0), fun j hj => ?_⟩
 rw [hr, List.mem_singleton] at hj
 subst hj
 rw [hs]
 exact eOpX_list hio (fun _ _ h => ⟨fun h => (by cases h), h⟩) (h w' hw')
theorem J_done {listed : Array Bool} {a : Act} {w : World} (hr : (Region.ready .any ops listed).isEmpty = true) (h : ∀ w', Below w.heap.size w w' → Q a w') : ∀ f, wpJs S P ops Q f listed a w
 | 0 => fun w' hw' => ⟨by simpa using hr, h w' hw'⟩
 | f + 1 => fun w' hw' => ⟨fun _ => h w' hw', fun i hi => by rw [List.isEmpty_iff.1 hr] at hi; cases hi⟩
theorem wp_region_junk (S : Nat → Prop) {id : Nat} {Q' : Exit → Act → World → Prop} {a : Act} {w : World} (hm : P.follows .mixedOrders = true)
  (h : wpJs S P ops (fun a' w' => Q' .normal a' w') ops.size (Array.replicate ops.size false) a w) : (Code.region id ops true).wp P Q' a w :=
 wp_region_any hm (wpAny_of_J (fun _ _ h => h) _ _ _ _ (h { w with drawn := w.drawn + 1 } (Below.refl _ _).drew))
end
end Go.Proofs.YtchoiankeohonaaGreatDoor
