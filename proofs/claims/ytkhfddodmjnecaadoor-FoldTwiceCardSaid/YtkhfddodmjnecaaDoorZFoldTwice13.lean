/-
 A run of the middle language as a machine of single steps, in plain data.; (As module J, but whole addresses are kept.) Regions that draw their order, with calls that make new memory: such a call may stand at any place, since all that follows is shown for every world that has grown out of the one at hand.
-/
import Derived.Test.YtkhfddodmjnecaaDoorZFoldTwice08
import Derived.Test.YtkhfddodmjnecaaDoorZFoldTwice10
import Derived.Test.YtkhfddodmjnecaaDoorZFoldTwice12
import Derived.Test.YtkhfddodmjnecaaDoorZFoldTwice09
import Derived.Test.YtkhfddodmjnecaaDoorZFoldTwice00

set_option linter.all false
namespace Go.Proofs.YtkhfddodmjnecaaDoor
set_option linter.unusedVariables false

/-- what a run has made -/
structure Oc where
 mem : List Int
 out : List Int
 ins : Int
 exit : Int
 e : Int
/-- a call that stands -/
structure Fr where
 n : Nat
 regs : List Int
 low : Int
 b : Nat
 i : Nat
def rg (regs : List Int) (n : Int) : Int := regs.getD n.toNat 0
def pk (m : Md) (n : Nat) : Pr := m.procs.getD n default
theorem bitF_bd (b : Bool) : 0 ≤ bitF b ∧ bitF b < 4294967296 := by cases b <;> decide
theorem fnF_bd (fn a b : Int) (h : 0 ≤ a) (h' : a < 4294967296) (h1 : 0 ≤ b) (h1' : b < 4294967296) : 0 ≤ fnF fn a b ∧ fnF fn a b < 4294967296 := by
 have l1 : 0 ≤ lessS a b ∧ lessS a b ≤ 1 := by unfold lessS; split <;> simp
 have l2 : 0 ≤ lessS b a ∧ lessS b a ≤ 1 := by unfold lessS; split <;> simp
 have M : ∀ x : Int, 0 ≤ x % 4294967296 ∧ x % 4294967296 < 4294967296 := fun x => ⟨Int.emod_nonneg _ (by decide), Int.emod_lt_of_pos _ (by decide)⟩
 have d4 : 0 ≤ divS a b ∧ divS a b < 4294967296 := by unfold divS; split; exact ⟨by decide, by decide⟩; exact M _
 have d5 : 0 ≤ remS a b ∧ remS a b < 4294967296 := by unfold remS; split; exact ⟨h, h'⟩; exact M _
 have d9 : 0 ≤ shl32 a b ∧ shl32 a b < 4294967296 := by unfold shl32; exact M _
 have d10 : 0 ≤ sar32 a b ∧ sar32 a b < 4294967296 := by unfold sar32; exact M _
 have hB : 0 ≤ bits .and .u32 a b ∧ bits .and .u32 a b < 4294967296 ∧ 0 ≤ bits .or .u32 a b ∧ bits .or .u32 a b < 4294967296 ∧ 0 ≤ bits .xor .u32 a b ∧ bits .xor .u32 a b < 4294967296 ∧ 0 ≤ bits .xor .u32 IntKind.u32.max a ∧ bits .xor .u32 IntKind.u32.max a < 4294967296 := by
  simp only [bits, IntKind.wrap_u32]
  exact ⟨(M _).1, (M _).2, (M _).1, (M _).2, (M _).1, (M _).2, (M _).1, (M _).2⟩
 obtain ⟨b1, b2, b3, b4, b5, b6, b7, b8⟩ := hB
 unfold fnF
 generalize divS a b = x1 at *
 generalize remS a b = x2 at *
 generalize shl32 a b = x3 at *
 generalize sar32 a b = x4 at *
 generalize bits .and .u32 a b = x5 at *
 generalize bits .or .u32 a b = x6 at *
 generalize bits .xor .u32 a b = x7 at *
 generalize bits .xor .u32 IntKind.u32.max a = x8 at *
 generalize lessS a b = x9 at *
 generalize lessS b a = x10 at *
 have P : ∀ (q : Prop) [Decidable q] (x y : Int), (0 ≤ x ∧ x < 4294967296) → (0 ≤ y ∧ y < 4294967296) → 0 ≤ (if q then x else y) ∧ (if q then x else y) < 4294967296 := fun q _ x y hx hy => by split <;> assumption
 repeat' apply P
 all_goals first
  | exact M _
  | exact bitF_bd _
  | (constructor <;> first | assumption | omega)
end Go.Proofs.YtkhfddodmjnecaaDoor

set_option linter.all false
namespace Go.Proofs.YtkhfddodmjnecaaDoor
open Go Go.RowKit
set_option linter.unusedVariables false

/-- what can be read in the blocks of S stays -/
def KeepY (S : Nat → Prop) (w w' : World) : Prop := ∀ a v, S a.block → w.cell? a = some v → w'.cell? a = some v
theorem KeepY.refl (S : Nat → Prop) (w : World) : KeepY S w w := fun _ _ _ h => h
theorem KeepY.trans {S : Nat → Prop} {a b c : World} (h : KeepY S a b) (k : KeepY S b c) : KeepY S a c := fun x v hx hv => k x v hx (h x v hx hv)
theorem KeepY.below {S : Nat → Prop} {w w' : World} (h : Below w.heap.size w w') : KeepY S w w' := fun a v _ hv => (h.cell (p := a) (World.block_lt_of_cell? w a hv)).trans hv
open Classical in
/-- a world that keeps what can be read in the blocks of S -/
noncomputable def ky (S : Nat → Prop) (w x : World) : World := if KeepY S w x then x else w
theorem ky_keep (S : Nat → Prop) (w x : World) : KeepY S w (ky S w x) := by
 unfold ky; split
 ·assumption
 ·exact KeepY.refl _ _
theorem keep_ky {S : Nat → Prop} {w x : World} (h : KeepY S w x) : ∃ y, x = ky S w y := ⟨x, by unfold ky; rw [if_pos h]⟩
noncomputable def kyRest (S : Nat → Prop) (w x : World) (a : Addr) : Option Value := (ky S w x).cell? a
theorem cell?_ky {S : Nat → Prop} {w x : World} {b o : Nat} (h : S b) : (ky S w x).cell? ⟨b, o, none⟩ = (w.cell? ⟨b, o, none⟩).or (kyRest S w x ⟨b, o, none⟩) := by
 unfold kyRest
 cases hc : w.cell? ⟨b, o, none⟩ with
 | none => simp
 | some v => rw [ky_keep S w x ⟨b, o, none⟩ v h hc]; rfl
attribute [go_sem] cell?_ky

section
variable {P : Program} {ops : Array Oper} {Q : Act → World → Prop} {S : Nat → Prop}

def eOpY (nd : Bool) (S : Nat → Prop) (P : Program) (ops : Array Oper) (i : Nat) (K : Act → World → Prop) (a : Act) (w : World) : Prop :=
 match ops[i]? with
 | none => K a w
 | some o => if Region.wanted o (yielded ops a.tmps) then o.wp P a w (fun a' w' => (nd = true → KeepY S w w') ∧ K a' w') never else K (a.put o.dst undef) w

def wpY (S : Nat → Prop) (P : Program) (ops : Array Oper) (Q : Act → World → Prop) : Nat → Array Bool → Act → World → Prop
 | 0, listed, a, w => Region.ready .any ops listed = [] ∧ Q a w
 | f + 1, listed, a, w => (Region.ready .any ops listed = [] → Q a w) ∧ ∀ i ∈ Region.ready .any ops listed, eOpY (!(sink ops i)) S P ops i (fun a' w' => ∀ w'', Below w'.heap.size w' w'' → wpY S P ops Q f (listed.setIfInBounds i true) a' w'') a w
/-- the same, for every world that has grown out of one -/
def wpYs (S : Nat → Prop) (P : Program) (ops : Array Oper) (Q : Act → World → Prop) (f : Nat) (listed : Array Bool) (a : Act) (w : World) : Prop :=
 ∀ w', Below w.heap.size w w' → wpY S P ops Q f listed a w'

theorem eOpY_mono {nd : Bool} {i : Nat} {a : Act} {w : World} {K K' : Act → World → Prop} (h : ∀ a w, K a w → K' a w) (hh : eOpY nd S P ops i K a w) : eOpY nd S P ops i K' a w := by
 unfold eOpY at *
 split
 ·exact h _ _ (by simpa [*] using hh)
 ·rename_i o ho
  simp only [ho] at hh
  split
  ·rename_i hw; simp only [hw, if_true] at hh; exact wp_never (fun a w h' => ⟨h'.1, h _ _ h'.2⟩) hh
  ·rename_i hw; simp only [hw] at hh; exact h _ _ hh
theorem wpAny_of_Y {Q' : Exit → Act → World → Prop} (hQ : ∀ a w, Q a w → Q' .normal a w) : ∀ (f : Nat) (listed : Array Bool) (a : Act) (w : World), wpY S P ops Q f listed a w → wpAny P .any ops Q' f listed a w
 | 0, _, _, _, h => ⟨h.1, hQ _ _ h.2⟩
 | f + 1, listed, a, w, h => ⟨fun h0 => hQ _ _ (h.1 h0), fun i hi => by
   have h1 := h.2 i hi
   unfold eOpY at h1
   unfold wpOp
   split
   ·rename_i ho; simp only [ho] at h1; exact wpAny_of_Y hQ f _ _ _ (h1 _ (Below.refl _ _))
   ·rename_i o ho
    simp only [ho] at h1
    split
    ·rename_i hw
     simp only [hw, if_true] at h1
     exact .inl (wp_never (fun a' w' h2 => wpAny_of_Y hQ f _ _ _ (h2.2 _ (Below.refl _ _))) h1)
    ·rename_i hw; simp only [hw] at h1; exact wpAny_of_Y hQ f _ _ _ (h1 _ (Below.refl _ _))⟩

/-- the operation yields one value and may make new memory, now and in every world that keeps what this one has -/
def YieldsY (S : Nat → Prop) (P : Program) (ops : Array Oper) (w : World) (o : Oper) (v : Value) (a : Act) : Prop :=
 (Region.wanted o (yielded ops a.tmps) = true ∧ ∀ w', KeepY S w w' → o.wp P a w' (fun a' w'' => a' = a.put o.dst v ∧ Below w'.heap.size w' w'') never) ∨
 (Region.wanted o (yielded ops a.tmps) = false ∧ v = undef)
theorem YieldsY.of_put {oi oj : Oper} {v u : Value} {a : Act} {w w1 : World} (hsi : ∀ cs b, oi.op ≠ .select cs b) (h2 : ∀ d, oi.dst = some d → oj.dst ≠ some d) (h3 : ∀ d, oj.dst = some d → d ∉ oi.looksAt ops)
  (hy : YieldsY S P ops w oi v a) (hb : KeepY S w w1) : YieldsY S P ops w1 oi v (a.put oj.dst u) := by
 unfold YieldsY at *
 rw [wanted_put oi a oj.dst u h3]
 rcases hy with ⟨h, k⟩ | h
 ·refine .inl ⟨h, fun w' h' => wp_at (execOp_put oi hsi a oj.dst u h3) (fun x hx => ?_) (k w' (hb.trans h'))⟩
  rw [← Act.put_comm a x u h2, ← Act.put_comm a v u h2, hx]
 ·exact .inr h
theorem YieldsY.keep {o : Oper} {v : Value} {a : Act} {w w1 : World} (hy : YieldsY S P ops w o v a) (hb : KeepY S w w1) : YieldsY S P ops w1 o v a := by
 rcases hy with ⟨h, k⟩ | h
 ·exact .inl ⟨h, fun w' h' => k w' (hb.trans h')⟩
 ·exact .inr h
theorem YieldsY.defers {o : Oper} {v : Value} {a : Act} {w : World} {ds : List Deferred} (hy : YieldsY S P ops w o v a) : YieldsY S P ops w o v { a with defers := ds } := by
 rcases hy with ⟨h, k⟩ | h
 ·exact .inl ⟨h, fun w' h' => wp_at (a := a) rfl (fun x hx => put_inj_defers hx) (k w' h')⟩
 ·exact .inr h
theorem eOpY_put {j : Nat} {oi oj : Oper} {v : Value} (hj : ops[j]? = some oj) (hap : oi.apart ops oj = true)
  (hsi : ∀ cs b, oi.op ≠ .select cs b) (hsj : ∀ cs b, oj.op ≠ .select cs b) {K : Act → World → Prop} {a : Act} {w : World}
  (hy : YieldsY S P ops w oi v a) (h : eOpY true S P ops j K (a.put oi.dst v) w) :
  eOpY true S P ops j (fun a' w' => YieldsY S P ops w' oi v a' ∧ K (a'.put oi.dst v) w') a w := by
 obtain ⟨h1, h2, h3⟩ := Oper.apart_spec hap
 unfold eOpY at *
 simp only [hj] at *
 rw [wanted_put oj a oi.dst v h1] at h
 split
 ·rename_i hw
  simp only [hw, if_true] at h
  unfold Oper.wp at *
  rw [execOp_put oj hsj a oi.dst v h1] at h
  generalize (execOp a.eval oj).run P w = r at *
  cases r with
  | ok n w' =>
   cases n <;> simp only [Oper.upon] at h ⊢
   case value u => exact ⟨fun _ => h.1 trivial, hy.of_put hsi h2 h3 (h.1 trivial), by rw [← Act.put_comm a v u h2]; exact h.2⟩
   case skip => exact ⟨fun _ => h.1 trivial, hy.of_put hsi h2 h3 (h.1 trivial), by rw [← Act.put_comm a v undef h2]; exact h.2⟩
   case defer d =>
    refine ⟨fun _ => h.1 trivial, (hy.defers (ds := d :: a.defers)).of_put hsi h2 h3 (h.1 trivial), ?_⟩
    rw [← Act.put_comm _ v undef h2, ← Act.put_defers]
    exact h.2
   case enter f args =>
    refine Calls.mono h fun e w'' he => ?_
    cases e with
    | returned u => exact ⟨fun _ => he.1 trivial, hy.of_put hsi h2 h3 (he.1 trivial), by rw [← Act.put_comm a v u h2]; exact he.2⟩
    | panicked c => exact he
    | outgrown => exact he
   case row row args => exact Rows.mono h fun u w'' he => ⟨fun _ => he.1 trivial, hy.of_put hsi h2 h3 (he.1 trivial), by rw [← Act.put_comm a v u h2]; exact he.2⟩
  | halt x w' =>
   cases x <;> simp only [Oper.upon] at h ⊢
   case panic u => exact h
 ·rename_i hw
  simp only [hw] at h
  exact ⟨hy.of_put hsi h2 h3 (KeepY.refl _ _), by rw [← Act.put_comm a v undef h2]; exact h⟩

theorem wpY_first {i : Nat} {oi : Oper} {v : Value} (hi : ops[i]? = some oi) (hsel : ∀ (j : Nat) (o : Oper) cs b, ops[j]? = some o → o.op ≠ .select cs b) :
  ∀ (fuel : Nat) (listed : Array Bool) (a : Act) (w : World),
   (∀ j oj, ops[j]? = some oj → j ≠ i → listed.getD j true = false → (∀ e ∈ oj.after, Region.binds .any e = true → e.on ≠ i) → oi.apart ops oj = true) →
   Closed ops listed → i ∈ Region.ready .any ops listed → YieldsY S P ops w oi v a →
   wpYs S P ops Q fuel (listed.setIfInBounds i true) (a.put oi.dst v) w → wpY S P ops Q (fuel + 1) listed a w := by
 have own : ∀ (fuel : Nat) (listed : Array Bool) (a : Act) (w : World), YieldsY S P ops w oi v a → wpYs S P ops Q fuel (listed.setIfInBounds i true) (a.put oi.dst v) w →
   eOpY (!(sink ops i)) S P ops i (fun a' w' => ∀ w'', Below w'.heap.size w' w'' → wpY S P ops Q fuel (listed.setIfInBounds i true) a' w'') a w := fun fuel listed a w hy H => by
  unfold eOpY
  simp only [hi]
  rcases hy with ⟨h, k⟩ | ⟨h, rfl⟩
  ·simp only [h, if_true]
   refine wp_never (fun a' w' h2 => ⟨fun _ => KeepY.below h2.2, fun w'' h3 => ?_⟩) (k w (KeepY.refl _ _))
   rw [h2.1]
   exact H w'' (h2.2.trans (h3.mono h2.2.size))
  ·simp only [h, Bool.false_eq_true, if_false]
   exact H
 intro fuel
 induction fuel with
 | zero =>
  intro listed a w _ hcl hr hy H
  refine ⟨fun h => (by rw [h] at hr; cases hr), fun j hj => ?_⟩
  by_cases hji : j = i
  ·subst hji; exact own _ _ _ _ hy H
  ·have := ready_mono hj hji
   rw [(H w (Below.refl _ _)).1] at this
   cases this
 | succ fuel ih =>
  intro listed a w hfree hcl hr hy H
  refine ⟨fun h => (by rw [h] at hr; cases hr), fun j hj => ?_⟩
  by_cases hji : j = i
  ·subst hji; exact own _ _ _ _ hy H
  ·have h1 := (H w (Below.refl _ _)).2 j (ready_mono hj hji)
   have hns : sink ops j = false := by
    cases hs : sink ops j
    ·rfl
    ·exact (sink_last hs hcl hj _ i rfl (Array.getElem?_eq_some_iff.1 hi).1 (Ne.symm hji) (mem_ready.1 hr).1).elim
   rw [hns] at h1 ⊢
   obtain ⟨hjun, oj, hoj, hall⟩ := mem_ready.1 hj
   have hnot : ∀ e ∈ oj.after, Region.binds .any e = true → e.on ≠ i := fun e he hb heq => by
    have h1 := hall e he hb
    have h0 := (mem_ready.1 hr).1
    rw [heq] at h1
    exact getD_both h1 h0
   have h2 := eOpY_put hoj (hfree j oj hoj hji hjun hnot) (fun cs b => hsel i oi cs b hi) (fun cs b => hsel j oj cs b hoj) hy h1
   have hfree' : ∀ k ok, ops[k]? = some ok → k ≠ i → (listed.setIfInBounds j true).getD k true = false →
     (∀ e ∈ ok.after, Region.binds .any e = true → e.on ≠ i) → oi.apart ops ok = true := fun k ok hk hki hun hno => by
    refine hfree k ok hk hki ?_ hno
    by_cases hjk : j = k
    ·subst hjk; exact hjun
    ·rw [getD_set_ne true hjk] at hun; exact hun
   refine eOpY_mono (fun a' w' h3 w'' hw'' => ih (listed.setIfInBounds j true) a' w'' hfree' (closed_step hcl hj) (ready_mono hr (Ne.symm hji)) (h3.1.keep (KeepY.below hw'')) ?_) h2
   intro w3 hw3
   rw [Array.setIfInBounds_comm _ _ hji]
   exact h3.2 w3 (hw''.trans (hw3.mono hw''.size))

/-- what only looks, first -/
theorem Y_mob {f : Nat} {listed : Array Bool} {a : Act} {w : World} (i : Nat) (o : Oper) (hio : ops[i]? = some o)
  (hc : (closedB ops listed && (Region.noSelect ops && (Region.ready .any ops listed).contains i && Region.free .any ops listed i && (lookOp o || lookB o))) = true)
  (h : wpQuiet P ops (fun w' => ∃ x, w' = ky S w x) (fun a' => wpYs S P ops Q f (listed.setIfInBounds i true) a' w) [o] a) : wpYs S P ops Q (f + 1) listed a w := by
 simp only [Bool.and_eq_true] at hc
 obtain ⟨hcl, ⟨⟨hs, hr⟩, hf⟩, hk⟩ := hc
 simp only [wpQuiet] at h
 have hy : ∃ v, YieldsY S P ops w o v a ∧ wpYs S P ops Q f (listed.setIfInBounds i true) (a.put o.dst v) w := by
  split at h
  ·rename_i hw
   obtain ⟨v, hv, hn⟩ := h
   refine ⟨v, .inl ⟨hw, fun w' hb => ?_⟩, hn⟩
   have h3 := hv w' (keep_ky hb)
   unfold Oper.quietAt at h3
   unfold Oper.wp
   generalize hrr : (execOp a.eval o).run P w' = r at h3
   cases r with
   | ok n w1 =>
    have hu : ∃ v, n = .value v := by
     rw [Bool.or_eq_true] at hk
     rcases hk with hk | hk
     ·exact lookOp_spec hk hrr
     ·exact lookB_spec hk hrr
    obtain ⟨u, rfl⟩ := hu
    simp only [Oper.quietUpon] at h3
    obtain ⟨rfl, rfl⟩ := h3
    simp only [Oper.upon]
    exact ⟨trivial, Below.refl _ _⟩
   | halt x w1 => simp only [Oper.quietUpon] at h3
  ·rename_i hw
   exact ⟨undef, .inr ⟨by simpa using hw, rfl⟩, h⟩
 obtain ⟨v, hy, hn⟩ := hy
 exact fun w' hw' => wpY_first hio (Region.noSelect_spec hs) f listed a w' (Region.free_spec hio hf) (closed_of hcl) (by simpa using hr) (hy.keep (KeepY.below hw')) fun w'' hw'' => hn w'' (hw'.trans (hw''.mono hw'.size))
/-- a call that answers one value and makes memory at most, first: it stands at any place -/
theorem Y_call {f : Nat} {listed : Array Bool} {a : Act} {w : World} (i : Nat) (o : Oper) (v : Value) (hio : ops[i]? = some o)
  (hc : (closedB ops listed && (Region.noSelect ops && (Region.ready .any ops listed).contains i && Region.free .any ops listed i)) = true)
  (hw : Region.wanted o (yielded ops a.tmps) = true)
  (h : ∀ w', KeepY S w w' → wpList P ops (onlyN fun a' w'' => a' = a.put o.dst v ∧ Below w'.heap.size w' w'') [o] a w')
  (hn : wpYs S P ops Q f (listed.setIfInBounds i true) (a.put o.dst v) w) : wpYs S P ops Q (f + 1) listed a w := by
 simp only [Bool.and_eq_true] at hc
 obtain ⟨hcl, ⟨hs, hr⟩, hf⟩ := hc
 have hy : YieldsY S P ops w o v a := .inl ⟨hw, fun w' hb => wp_of_list hw (h w' hb)⟩
 exact fun w' hw' => wpY_first hio (Region.noSelect_spec hs) f listed a w' (Region.free_spec hio hf) (closed_of hcl) (by simpa using hr) (hy.keep (KeepY.below hw')) fun w'' hw'' => hn w'' (hw'.trans (hw''.mono hw'.size))
theorem eOpY_list {nd : Bool} {i : Nat} {o : Oper} {K : Act → World → Prop} {a : Act} {w : World} (hio : ops[i]? = some o)
  {K' : Act → World → Prop} (hK : ∀ a' w', K' a' w' → (nd = true → KeepY S w w') ∧ K a' w')
  (h : wpList P ops (onlyN K') [o] a w) : eOpY nd S P ops i K a w := by
 unfold eOpY
 simp only [hio]
 split
 ·rename_i hw
  exact wp_never hK (wp_of_list hw h)
 ·rename_i hw
  unfold wpList at h
  simp only [hw] at h
  exact (hK _ _ h).2
/-- the one that comes next -/
theorem Y_loud1 {f : Nat} {listed : Array Bool} {a : Act} {w : World} (i : Nat) (o : Oper) (hio : ops[i]? = some o) (hr : (Region.ready .any ops listed == [i]) = true)
  (h : ∀ w', Below w.heap.size w w' → wpList P ops (onlyN fun a' w1 => KeepY S w' w1 ∧ wpYs S P ops Q f (listed.setIfInBounds i true) a' w1) [o] a w') : wpYs S P ops Q (f + 1) listed a w := by
 simp only [beq_iff_eq] at hr
 refine fun w' hw' => ⟨fun h0 => (by rw [hr] at h0; cases h0), fun j hj => ?_⟩
 rw [hr, List.mem_singleton] at hj
 subst hj
 exact eOpY_list hio (fun _ _ h => ⟨fun _ => h.1, h.2⟩) (h w' hw')
theorem Y_loud2 {f : Nat} {listed : Array Bool} {a : Act} {w : World} (i j : Nat) (o o' : Oper) (hio : ops[i]? = some o) (hjo : ops[j]? = some o') (hr : (Region.ready .any ops listed == [i, j]) = true)
  (h : ∀ w', Below w.heap.size w w' → wpList P ops (onlyN fun a' w1 => KeepY S w' w1 ∧ wpYs S P ops Q f (listed.setIfInBounds i true) a' w1) [o] a w')
  (h' : ∀ w', Below w.heap.size w w' → wpList P ops (onlyN fun a' w1 => KeepY S w' w1 ∧ wpYs S P ops Q f (listed.setIfInBounds j true) a' w1) [o'] a w') : wpYs S P ops Q (f + 1) listed a w := by
 simp only [beq_iff_eq] at hr
 refine fun w' hw' => ⟨fun h0 => (by rw [hr] at h0; cases h0), fun k hk => ?_⟩
 rw [hr] at hk
 simp only [List.mem_cons, List.not_mem_nil, or_false] at hk
 rcases hk with rfl | rfl
 ·exact eOpY_list hio (fun _ _ h => ⟨fun _ => h.1, h.2⟩) (h w' hw')
 ·exact eOpY_list hjo (fun _ _ h => ⟨fun _ => h.1, h.2⟩) (h' w' hw')
theorem Y_done {listed : Array Bool} {a : Act} {w : World} (hr : (Region.ready .any ops listed).isEmpty = true) (h : ∀ w', Below w.heap.size w w' → Q a w') : ∀ f, wpYs S P ops Q f listed a w
 | 0 => fun w' hw' => ⟨by simpa using hr, h w' hw'⟩
 | f + 1 => fun w' hw' => ⟨fun _ => h w' hw', fun i hi => by rw [List.isEmpty_iff.1 hr] at hi; cases hi⟩
theorem wp_region_yard (S : Nat → Prop) {id : Nat} {Q' : Exit → Act → World → Prop} {a : Act} {w : World} (hm : P.follows .mixedOrders = true)
  (h : wpYs S P ops (fun a' w' => Q' .normal a' w') ops.size (Array.replicate ops.size false) a w) : (Code.region id ops true).wp P Q' a w :=
 wp_region_any hm (wpAny_of_Y (fun _ _ h => h) _ _ _ _ (h { w with drawn := w.drawn + 1 } (Below.refl _ _).drew))
theorem Y_mobs : ∀ (is : List Nat) (n : Nat) (listed : Array Bool) (a : Act) (w : World), (decide (is.length ≤ n) && movesOk lookJ ops is listed) = true →
  wpQuiet P ops (fun w' => ∃ x, w' = ky S w x) (fun a' => wpYs S P ops Q (n - is.length) (listAll is listed) a' w) (is.map fun i => (ops[i]?).getD opD) a → wpYs S P ops Q n listed a w
 | [], n, listed, a, w, _, h => h
 | i :: is, n, listed, a, w, hc, h => by
  simp only [Bool.and_eq_true, decide_eq_true_eq, movesOk] at hc
  obtain ⟨hl, ⟨h1, ⟨⟨h2, h3⟩, h4⟩, h5⟩, h6⟩ := hc
  cases n with
  | zero => exact absurd hl (by simp)
  | succ n =>
   cases ho : ops[i]? with
   | none => rw [ho] at h5; cases h5
   | some o =>
    rw [ho] at h5
    have h5 : lookJ o = true := h5
    refine Y_mob i o ho (by simp only [Bool.and_eq_true]; exact ⟨h1, ⟨⟨h2, h3⟩, h4⟩, h5⟩) ?_
    rw [List.map_cons, ho] at h
    refine quiet_mono (fun a' h' => ?_) (quiet_one h)
    refine Y_mobs is n _ a' w (by simp only [Bool.and_eq_true, decide_eq_true_eq]; exact ⟨by simpa using hl, h6⟩) ?_
    have e : n + 1 - (i :: is).length = n - is.length := by simp
    rw [e] at h'
    exact h'
end
/-- blocks that were there keep all: what was told of memory stays true -/
theorem KeepY.set {S : Nat → Prop} {w w' : World} (h : KeepY S w w') {p : Addr} (u : Value) (hp : ¬ S p.block) : KeepY S w (w'.setCell p u) := fun a v ha hv => by
 have h1 := h a v ha hv
 have hne : a.block ≠ p.block := fun e => hp (e ▸ ha)
 unfold World.cell? at h1 ⊢
 have e : (w'.setCell p u).heap[a.block]? = w'.heap[a.block]? := heap_setCell_other w' p a.block u hne
 rw [e]
 exact h1
/-- .. so what stood in a world that all this began with stands -/
theorem KeepY.ext {n : Nat} {w0 w w' : World} (h : KeepY (fun z => z < n) w w') (h0 : Ext w0 w) (hn : w0.heap.size ≤ n) : Ext w0 w' := fun a v hv => h a v (Nat.lt_of_lt_of_le (World.block_lt_of_cell? w0 a hv) hn) (h0 a v hv)
end Go.Proofs.YtkhfddodmjnecaaDoor
