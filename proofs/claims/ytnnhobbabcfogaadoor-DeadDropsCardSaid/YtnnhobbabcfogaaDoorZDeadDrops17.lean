/-
 What is live behind each instruction: the marking carried back from the block's end is the search.; Which instructions and stores nobody asks for, as plain data; places of which something holds, rising.; Regions that draw their order, with calls that make new memory: such a call may stand at any place, since all that follows is shown for every world that has grown out of the one at hand.
-/
import Derived.Test.YtnnhobbabcfogaaDoorZDeadDrops16
import Derived.Test.YtnnhobbabcfogaaDoorZDeadDrops15

set_option linter.all false
namespace Go.Proofs.YtnnhobbabcfogaaDoor

theorem live_at {p : Pr} {n : Nat} {lo : List Bool} (h : ∀ r : Nat, r < lo.length → lo.getD r false = liveP p n (p.blks.getD n default).ins.length r) (k : Nat) {r : Nat} (hr : r < lo.length) :
  (backK lo ((p.blks.getD n default).ins.drop k)).getD r false = liveP p n k r := by
 rw [backK_get _ _ _ hr]
 have e1 : lo.getD r false = true ↔ LvE p r n := by rw [h r hr]; exact liveP_end p n r
 rw [Bool.eq_iff_iff, liveP_iff]
 unfold LvE at e1
 have e2 : withinB (p.blks.getD n default) k r = if withinI r ((p.blks.getD n default).ins.drop k) = 0 then (if endReads (p.blks.getD n default) r = true then 1 else 0) else withinI r ((p.blks.getD n default).ins.drop k) := by
  unfold withinB; rfl
 rw [e2]
 simp only [Bool.or_eq_true, Bool.and_eq_true, decide_eq_true_eq, e1]
 rcases withinI_cases r ((p.blks.getD n default).ins.drop k) with h0 | h0 | h0 <;> rw [h0] <;> cases endReads (p.blks.getD n default) r <;> simp
theorem backK_step (lo : List Bool) (l : List In) (k : Nat) (hk : k < l.length) : backK lo (l.drop k) = beforeB (backK lo (l.drop (k + 1))) (l.getD k default) := by
 rw [drop_cons l k hk]; rfl
theorem backK_end (lo : List Bool) (l : List In) : backK lo (l.drop l.length) = lo := by simp [backK]
end Go.Proofs.YtnnhobbabcfogaaDoor

set_option linter.all false
namespace Go.Proofs.YtnnhobbabcfogaaDoor

/-- the places below k of which h holds, rising -/
def posU (h : Nat → Bool) (k : Nat) : List Int := ((List.range k).filter h).map fun i : Nat => (i : Int)
theorem posU_succ (h : Nat → Bool) (k : Nat) : posU h (k + 1) = posU h k ++ (if h k = true then [(k : Int)] else []) := by
 unfold posU
 rw [List.range_succ, List.filter_append, List.map_append]
 congr 1
 cases e : h k <;> simp [e]
theorem posU_no {h : Nat → Bool} {k : Nat} (e : h k = false) : posU h (k + 1) = posU h k := by rw [posU_succ, e]; simp
theorem posU_yes {h : Nat → Bool} {k : Nat} (e : h k = true) : posU h (k + 1) = posU h k ++ [(k : Int)] := by rw [posU_succ, e]; simp
theorem posU_le (h : Nat → Bool) (k : Nat) : (posU h k).length ≤ k := by
 unfold posU
 rw [List.length_map]
 have := List.length_filter_le h (List.range k)
 rwa [List.length_range] at this
theorem posU_pre (h : Nat → Bool) {j k : Nat} (hjk : j ≤ k) : posU h j <+: posU h k := by
 obtain ⟨d, rfl⟩ := Nat.le.dest hjk
 clear hjk
 induction d with
 | zero => exact List.prefix_refl _
 | succ d ih =>
  refine ih.trans ?_
  rw [← Nat.add_assoc, posU_succ]
  exact List.prefix_append _ _
theorem posU_at (h : Nat → Bool) {i k : Nat} (hi : i < k) (e : h i = true) : (posU h i).length < (posU h k).length ∧ (posU h k).getD (posU h i).length 0 = (i : Int) := by
 obtain ⟨r, hr⟩ := posU_pre h (show i + 1 ≤ k from hi)
 rw [posU_yes e] at hr
 rw [← hr]
 constructor
 ·simp
 ·simp [List.getD]
theorem posU_congr {h g : Nat → Bool} (k : Nat) (e : ∀ i, i < k → h i = g i) : posU h k = posU g k := by
 induction k with
 | zero => rfl
 | succ k ih => rw [posU_succ, posU_succ, ih fun i hi => e i (by omega), e k (by omega)]
theorem posU_mem {h : Nat → Bool} {k : Nat} {x : Int} (hx : x ∈ posU h k) : 0 ≤ x ∧ x < k ∧ h x.toNat = true := by
 unfold posU at hx
 simp only [List.mem_map, List.mem_filter, List.mem_range] at hx
 obtain ⟨i, ⟨h1, h2⟩, rfl⟩ := hx
 exact ⟨by omega, by omega, by simpa using h2⟩
theorem posU_mem_iff (h : Nat → Bool) {i k : Nat} (hi : i < k) : (i : Int) ∈ posU h k ↔ h i = true := by
 constructor
 ·intro hx; have := (posU_mem hx).2.2; simpa using this
 ·intro e
  unfold posU
  simp only [List.mem_map, List.mem_filter, List.mem_range]
  exact ⟨i, ⟨hi, e⟩, rfl⟩
/-- the places from k on, below len, falling -/
def posD (h : Nat → Bool) (len : Nat) : Nat → List Int
 | 0 => []
 | d + 1 => posD h len d ++ (if h (len - 1 - d) = true then [((len - 1 - d : Nat) : Int)] else [])
theorem posD_no {h : Nat → Bool} {len d : Nat} (e : h (len - 1 - d) = false) : posD h len (d + 1) = posD h len d := by simp [posD, e]
theorem posD_yes {h : Nat → Bool} {len d : Nat} (e : h (len - 1 - d) = true) : posD h len (d + 1) = posD h len d ++ [((len - 1 - d : Nat) : Int)] := by simp [posD, e]
theorem posD_succ (h : Nat → Bool) (len d : Nat) : posD h len (d + 1) = posD h len d ++ (if h (len - 1 - d) = true then [((len - 1 - d : Nat) : Int)] else []) := rfl
theorem posD_le (h : Nat → Bool) (len d : Nat) : (posD h len d).length ≤ d := by
 induction d with
 | zero => simp [posD]
 | succ d ih => rw [posD_succ, List.length_append]; split <;> simp <;> omega
theorem posD_part (h : Nat → Bool) (len d : Nat) (hd : d ≤ len) : posU h (len - d) ++ (posD h len d).reverse = posU h len := by
 induction d with
 | zero => simp [posD]
 | succ d ih =>
  have ih := ih (by omega)
  have e : len - d = (len - (d + 1)) + 1 := by omega
  have e2 : len - 1 - d = len - (d + 1) := by omega
  rw [e, posU_succ, List.append_assoc] at ih
  rw [← ih]
  congr 1
  rw [posD_succ, List.reverse_append, e2]
  split <;> simp
theorem posD_all (h : Nat → Bool) (len : Nat) : (posD h len len).reverse = posU h len := by
 have := posD_part h len len (Nat.le_refl _)
 rw [Nat.sub_self] at this
 simpa [posU] using this

/-- does a store hide one of another place ahead of it? -/
def hidesF (s y : In) : Bool := y.op == 6 && (y.size == s.size && (y.a == s.a && y.off == s.off))
def stopsF (s i : In) : Bool := i.op == 5 || (i.op == 9 || (i.op == 12 || defI i == s.a))
def hiddenF (s : In) : List In → Bool
 | [] => false
 | i :: l => if hidesF s i = true then true else if stopsF s i = true then false else hiddenF s l
def storeI (l : List In) (k : Nat) : Bool := (l.getD k default).op == 6 && (!(l.getD k default).log && hiddenF (l.getD k default) (l.drop (k + 1)))
def idleI (p : Pr) (n k : Nat) : Bool := pureI ((p.blks.getD n default).ins.getD k default) && !liveP p n (k + 1) ((p.blks.getD n default).ins.getD k default).d
/-- the places of a block at which nobody asks for the instruction, and the store -/
def idleL (p : Pr) (n : Nat) : List Int := posU (idleI p n) (p.blks.getD n default).ins.length
def storeL (p : Pr) (n : Nat) : List Int := posU (storeI (p.blks.getD n default).ins) (p.blks.getD n default).ins.length
theorem hiddenF_drop (s : In) (l : List In) {k : Nat} (hk : k < l.length) : hiddenF s (l.drop k) = if hidesF s (l.getD k default) = true then true else if stopsF s (l.getD k default) = true then false else hiddenF s (l.drop (k + 1)) := by
 rw [drop_cons l k hk]; rfl
theorem hiddenF_end (s : In) (l : List In) : hiddenF s (l.drop l.length) = false := by rw [List.drop_length]; rfl
end Go.Proofs.YtnnhobbabcfogaaDoor

set_option linter.all false
namespace Go.Proofs.YtnnhobbabcfogaaDoor
open Go Go.RowKit
set_option linter.unusedVariables false

/-- what can be read in the blocks of S stays -/
def KeepX (S : Nat → Prop) (w w' : World) : Prop := ∀ b o v, S b → w.cell? ⟨b, o, none⟩ = some v → w'.cell? ⟨b, o, none⟩ = some v
theorem KeepX.refl (S : Nat → Prop) (w : World) : KeepX S w w := fun _ _ _ _ h => h
theorem KeepX.trans {S : Nat → Prop} {a b c : World} (h : KeepX S a b) (k : KeepX S b c) : KeepX S a c := fun x o v hx hv => k x o v hx (h x o v hx hv)
theorem KeepX.below {S : Nat → Prop} {w w' : World} (h : Below w.heap.size w w') : KeepX S w w' := fun b o v _ hv => (h.cell (p := ⟨b, o, none⟩) (World.block_lt_of_cell? w ⟨b, o, none⟩ hv)).trans hv
open Classical in
/-- a world that keeps what can be read in the blocks of S -/
noncomputable def kx (S : Nat → Prop) (w x : World) : World := if KeepX S w x then x else w
theorem kx_keep (S : Nat → Prop) (w x : World) : KeepX S w (kx S w x) := by
 unfold kx; split
 ·assumption
 ·exact KeepX.refl _ _
theorem keep_kx {S : Nat → Prop} {w x : World} (h : KeepX S w x) : ∃ y, x = kx S w y := ⟨x, by unfold kx; rw [if_pos h]⟩
noncomputable def kxRest (S : Nat → Prop) (w x : World) (a : Addr) : Option Value := (kx S w x).cell? a
theorem cell?_kx {S : Nat → Prop} {w x : World} {b o : Nat} (h : S b) : (kx S w x).cell? ⟨b, o, none⟩ = (w.cell? ⟨b, o, none⟩).or (kxRest S w x ⟨b, o, none⟩) := by
 unfold kxRest
 cases hc : w.cell? ⟨b, o, none⟩ with
 | none => simp
 | some v => rw [kx_keep S w x b o v h hc]; rfl
attribute [go_sem] cell?_kx

section
variable {P : Program} {ops : Array Oper} {Q : Act → World → Prop} {S : Nat → Prop}

def eOpX (nd : Bool) (S : Nat → Prop) (P : Program) (ops : Array Oper) (i : Nat) (K : Act → World → Prop) (a : Act) (w : World) : Prop :=
 match ops[i]? with
 | none => K a w
 | some o => if Region.wanted o (yielded ops a.tmps) then o.wp P a w (fun a' w' => (nd = true → KeepX S w w') ∧ K a' w') never else K (a.put o.dst undef) w

def wpJ (S : Nat → Prop) (P : Program) (ops : Array Oper) (Q : Act → World → Prop) : Nat → Array Bool → Act → World → Prop
 | 0, listed, a, w => Region.ready .any ops listed = [] ∧ Q a w
 | f + 1, listed, a, w => (Region.ready .any ops listed = [] → Q a w) ∧ ∀ i ∈ Region.ready .any ops listed, eOpX (!(sink ops i)) S P ops i (fun a' w' => ∀ w'', Below w'.heap.size w' w'' → wpJ S P ops Q f (listed.setIfInBounds i true) a' w'') a w
/-- the same, for every world that has grown out of one -/
def wpJs (S : Nat → Prop) (P : Program) (ops : Array Oper) (Q : Act → World → Prop) (f : Nat) (listed : Array Bool) (a : Act) (w : World) : Prop :=
 ∀ w', Below w.heap.size w w' → wpJ S P ops Q f listed a w'

theorem eOpX_mono {nd : Bool} {i : Nat} {a : Act} {w : World} {K K' : Act → World → Prop} (h : ∀ a w, K a w → K' a w) (hh : eOpX nd S P ops i K a w) : eOpX nd S P ops i K' a w := by
 unfold eOpX at *
 split
 ·exact h _ _ (by simpa [*] using hh)
 ·rename_i o ho
  simp only [ho] at hh
  split
  ·rename_i hw; simp only [hw, if_true] at hh; exact wp_never (fun a w h' => ⟨h'.1, h _ _ h'.2⟩) hh
  ·rename_i hw; simp only [hw] at hh; exact h _ _ hh
theorem wpAny_of_J {Q' : Exit → Act → World → Prop} (hQ : ∀ a w, Q a w → Q' .normal a w) : ∀ (f : Nat) (listed : Array Bool) (a : Act) (w : World), wpJ S P ops Q f listed a w → wpAny P .any ops Q' f listed a w
 | 0, _, _, _, h => ⟨h.1, hQ _ _ h.2⟩
 | f + 1, listed, a, w, h => ⟨fun h0 => hQ _ _ (h.1 h0), fun i hi => by
   have h1 := h.2 i hi
   unfold eOpX at h1
   unfold wpOp
   split
   ·rename_i ho; simp only [ho] at h1; exact wpAny_of_J hQ f _ _ _ (h1 _ (Below.refl _ _))
   ·rename_i o ho
    simp only [ho] at h1
    split
    ·rename_i hw
     simp only [hw, if_true] at h1
     exact .inl (wp_never (fun a' w' h2 => wpAny_of_J hQ f _ _ _ (h2.2 _ (Below.refl _ _))) h1)
    ·rename_i hw; simp only [hw] at h1; exact wpAny_of_J hQ f _ _ _ (h1 _ (Below.refl _ _))⟩

/-- the operation yields one value and may make new memory, now and in every world that keeps what this one has -/
def YieldsJ (S : Nat → Prop) (P : Program) (ops : Array Oper) (w : World) (o : Oper) (v : Value) (a : Act) : Prop :=
 (Region.wanted o (yielded ops a.tmps) = true ∧ ∀ w', KeepX S w w' → o.wp P a w' (fun a' w'' => a' = a.put o.dst v ∧ Below w'.heap.size w' w'') never) ∨
 (Region.wanted o (yielded ops a.tmps) = false ∧ v = undef)
theorem put_inj_defers {a : Act} {dst : Option Tmp} {v u : Value} {ds : List Deferred} (h : a.put dst v = a.put dst u) : ({ a with defers := ds } : Act).put dst v = ({ a with defers := ds } : Act).put dst u := by
 cases dst with
 | none => rfl
 | some d =>
  simp only [Act.put, Act.mk.injEq] at h ⊢
  exact ⟨h.1, trivial⟩
theorem wp_at {o : Oper} {a b : Act} {v : Value} {w : World} {R : World → Prop} (he : execOp b.eval o = execOp a.eval o) (hp : ∀ u, a.put o.dst u = a.put o.dst v → b.put o.dst u = b.put o.dst v)
  (h : o.wp P a w (fun a' w' => a' = a.put o.dst v ∧ R w') never) : o.wp P b w (fun a' w' => a' = b.put o.dst v ∧ R w') never := by
 unfold Oper.wp at *
 rw [he]
 generalize (execOp a.eval o).run P w = r at *
 cases r with
 | ok n w' =>
  cases n <;> simp only [Oper.upon] at h ⊢
  case value u => exact ⟨hp u h.1, h.2⟩
  case skip => exact ⟨hp _ h.1, h.2⟩
  case defer d =>
   exfalso
   have h1 := congrArg (fun x : Act => x.defers.length) h.1
   cases hd : o.dst <;> simp [hd, Act.put] at h1
  case enter f args =>
   refine Calls.mono h fun e w'' he => ?_
   cases e with
   | returned u => exact ⟨hp u he.1, he.2⟩
   | panicked c => exact he
   | outgrown => exact he
  case row row args => exact Rows.mono h fun u w'' he => ⟨hp u he.1, he.2⟩
 | halt x w' =>
  cases x <;> simp only [Oper.upon] at h ⊢
  case panic u => exact h
theorem YieldsJ.of_put {oi oj : Oper} {v u : Value} {a : Act} {w w1 : World} (hsi : ∀ cs b, oi.op ≠ .select cs b) (h2 : ∀ d, oi.dst = some d → oj.dst ≠ some d) (h3 : ∀ d, oj.dst = some d → d ∉ oi.looksAt ops)
  (hy : YieldsJ S P ops w oi v a) (hb : KeepX S w w1) : YieldsJ S P ops w1 oi v (a.put oj.dst u) := by
 unfold YieldsJ at *
 rw [wanted_put oi a oj.dst u h3]
 rcases hy with ⟨h, k⟩ | h
 ·refine .inl ⟨h, fun w' h' => wp_at (execOp_put oi hsi a oj.dst u h3) (fun x hx => ?_) (k w' (hb.trans h'))⟩
  rw [← Act.put_comm a x u h2, ← Act.put_comm a v u h2, hx]
 ·exact .inr h
theorem YieldsJ.keep {o : Oper} {v : Value} {a : Act} {w w1 : World} (hy : YieldsJ S P ops w o v a) (hb : KeepX S w w1) : YieldsJ S P ops w1 o v a := by
 rcases hy with ⟨h, k⟩ | h
 ·exact .inl ⟨h, fun w' h' => k w' (hb.trans h')⟩
 ·exact .inr h
theorem YieldsJ.defers {o : Oper} {v : Value} {a : Act} {w : World} {ds : List Deferred} (hy : YieldsJ S P ops w o v a) : YieldsJ S P ops w o v { a with defers := ds } := by
 rcases hy with ⟨h, k⟩ | h
 ·exact .inl ⟨h, fun w' h' => wp_at (a := a) rfl (fun x hx => put_inj_defers hx) (k w' h')⟩
 ·exact .inr h
theorem eOpX_put {j : Nat} {oi oj : Oper} {v : Value} (hj : ops[j]? = some oj) (hap : oi.apart ops oj = true)
  (hsi : ∀ cs b, oi.op ≠ .select cs b) (hsj : ∀ cs b, oj.op ≠ .select cs b) {K : Act → World → Prop} {a : Act} {w : World}
  (hy : YieldsJ S P ops w oi v a) (h : eOpX true S P ops j K (a.put oi.dst v) w) :
  eOpX true S P ops j (fun a' w' => YieldsJ S P ops w' oi v a' ∧ K (a'.put oi.dst v) w') a w := by
 obtain ⟨h1, h2, h3⟩ := Oper.apart_spec hap
 unfold eOpX at *
 simp only [hj] at *
 rw [wanted_put oj a oi.dst v h1] at h
 split
 ·rename_i hw
  simp only [hw, if_true] at h
  unfold Oper.wp at *
  rw [execOp_put oj hsj a oi.dst v h1] at h
  generalize (execOp a.eval oj).run P w = r at *
  cases r with
  | ok n w' =>
   cases n <;> simp only [Oper.upon] at h ⊢
   case value u => exact ⟨fun _ => h.1 trivial, hy.of_put hsi h2 h3 (h.1 trivial), by rw [← Act.put_comm a v u h2]; exact h.2⟩
   case skip => exact ⟨fun _ => h.1 trivial, hy.of_put hsi h2 h3 (h.1 trivial), by rw [← Act.put_comm a v undef h2]; exact h.2⟩
   case defer d =>
    refine ⟨fun _ => h.1 trivial, (hy.defers (ds := d :: a.defers)).of_put hsi h2 h3 (h.1 trivial), ?_⟩
    rw [← Act.put_comm _ v undef h2, ← Act.put_defers]
    exact h.2
   case enter f args =>
    refine Calls.mono h fun e w'' he => ?_
    cases e with
    | returned u => exact ⟨fun _ => he.1 trivial, hy.of_put hsi h2 h3 (he.1 trivial), by rw [← Act.put_comm a v u h2]; exact he.2⟩
    | panicked c => exact he
    | outgrown => exact he
   case row row args => exact Rows.mono h fun u w'' he => ⟨fun _ => he.1 trivial, hy.of_put hsi h2 h3 (he.1 trivial), by rw [← Act.put_comm a v u h2]; exact he.2⟩
  | halt x w' =>
   cases x <;> simp only [Oper.upon] at h ⊢
   case panic u => exact h
 ·rename_i hw
  simp only [hw] at h
  exact ⟨hy.of_put hsi h2 h3 (KeepX.refl _ _), by rw [← Act.put_comm a v undef h2]; exact h⟩

theorem wpJ_first {i : Nat} {oi : Oper} {v : Value} (hi : ops[i]? = some oi) (hsel : ∀ (j : Nat) (o : Oper) cs b, ops[j]? = some o → o.op ≠ .select cs b) :
  ∀ (fuel : Nat) (listed : Array Bool) (a : Act) (w : World),
   (∀ j oj, ops[j]? = some oj → j ≠ i → listed.getD j true = false → (∀ e ∈ oj.after, Region.binds .any e = true → e.on ≠ i) → oi.apart ops oj = true) →
   Closed ops listed → i ∈ Region.ready .any ops listed → YieldsJ S P ops w oi v a →
   wpJs S P ops Q fuel (listed.setIfInBounds i true) (a.put oi.dst v) w → wpJ S P ops Q (fuel + 1) listed a w := by
 have own : ∀ (fuel : Nat) (listed : Array Bool) (a : Act) (w : World), YieldsJ S P ops w oi v a → wpJs S P ops Q fuel (listed.setIfInBounds i true) (a.put oi.dst v) w →
   eOpX (!(sink ops i)) S P ops i (fun a' w' => ∀ w'', Below w'.heap.size w' w'' → wpJ S P ops Q fuel (listed.setIfInBounds i true) a' w'') a w := fun fuel listed a w hy H => by
  unfold eOpX
  simp only [hi]
  rcases hy with ⟨h, k⟩ | ⟨h, rfl⟩
  ·simp only [h, if_true]
   refine wp_never (fun a' w' h2 => ⟨fun _ => KeepX.below h2.2, fun w'' h3 => ?_⟩) (k w (KeepX.refl _ _))
   rw [h2.1]
   exact H w'' (h2.2.trans (h3.mono h2.2.size))
  ·simp only [h, Bool.false_eq_true, if_false]
   exact H
 intro fuel
 induction fuel with
 | zero =>
  intro listed a w _ hcl hr hy H
  refine ⟨fun h => (by rw [h] at hr; cases hr), fun j hj => ?_⟩
  by_cases hji : j = i
  ·subst hji; exact own _ _ _ _ hy H
  ·have := ready_mono hj hji
   rw [(H w (Below.refl _ _)).1] at this
   cases this
 | succ fuel ih =>
  intro listed a w hfree hcl hr hy H
  refine ⟨fun h => (by rw [h] at hr; cases hr), fun j hj => ?_⟩
  by_cases hji : j = i
  ·subst hji; exact own _ _ _ _ hy H
  ·have h1 := (H w (Below.refl _ _)).2 j (ready_mono hj hji)
   have hns : sink ops j = false := by
    cases hs : sink ops j
    ·rfl
    ·exact (sink_last hs hcl hj _ i rfl (Array.getElem?_eq_some_iff.1 hi).1 (Ne.symm hji) (mem_ready.1 hr).1).elim
   rw [hns] at h1 ⊢
   obtain ⟨hjun, oj, hoj, hall⟩ := mem_ready.1 hj
   have hnot : ∀ e ∈ oj.after, Region.binds .any e = true → e.on ≠ i := fun e he hb heq => by
    have h1 := hall e he hb
    have h0 := (mem_ready.1 hr).1
    rw [heq] at h1
    exact getD_both h1 h0
   have h2 := eOpX_put hoj (hfree j oj hoj hji hjun hnot) (fun cs b => hsel i oi cs b hi) (fun cs b => hsel j oj cs b hoj) hy h1
   have hfree' : ∀ k ok, ops[k]? = some ok → k ≠ i → (listed.setIfInBounds j true).getD k true = false →
     (∀ e ∈ ok.after, Region.binds .any e = true → e.on ≠ i) → oi.apart ops ok = true := fun k ok hk hki hun hno => by
    refine hfree k ok hk hki ?_ hno
    by_cases hjk : j = k
    ·subst hjk; exact hjun
    ·rw [getD_set_ne true hjk] at hun; exact hun
   refine eOpX_mono (fun a' w' h3 w'' hw'' => ih (listed.setIfInBounds j true) a' w'' hfree' (closed_step hcl hj) (ready_mono hr (Ne.symm hji)) (h3.1.keep (KeepX.below hw'')) ?_) h2
   intro w3 hw3
   rw [Array.setIfInBounds_comm _ _ hji]
   exact h3.2 w3 (hw''.trans (hw3.mono hw''.size))

/-- what only looks, first -/
theorem J_mob {f : Nat} {listed : Array Bool} {a : Act} {w : World} (i : Nat) (o : Oper) (hio : ops[i]? = some o)
  (hc : (closedB ops listed && (Region.noSelect ops && (Region.ready .any ops listed).contains i && Region.free .any ops listed i && (lookOp o || lookB o))) = true)
  (h : wpQuiet P ops (fun w' => ∃ x, w' = kx S w x) (fun a' => wpJs S P ops Q f (listed.setIfInBounds i true) a' w) [o] a) : wpJs S P ops Q (f + 1) listed a w := by
 simp only [Bool.and_eq_true] at hc
 obtain ⟨hcl, ⟨⟨hs, hr⟩, hf⟩, hk⟩ := hc
 simp only [wpQuiet] at h
 have hy : ∃ v, YieldsJ S P ops w o v a ∧ wpJs S P ops Q f (listed.setIfInBounds i true) (a.put o.dst v) w := by
  split at h
  ·rename_i hw
   obtain ⟨v, hv, hn⟩ := h
   refine ⟨v, .inl ⟨hw, fun w' hb => ?_⟩, hn⟩
   have h3 := hv w' (keep_kx hb)
   unfold Oper.quietAt at h3
   unfold Oper.wp
   generalize hrr : (execOp a.eval o).run P w' = r at h3
   cases r with
   | ok n w1 =>
    have hu : ∃ v, n = .value v := by
     rw [Bool.or_eq_true] at hk
     rcases hk with hk | hk
     ·exact lookOp_spec hk hrr
     ·exact lookB_spec hk hrr
    obtain ⟨u, rfl⟩ := hu
    simp only [Oper.quietUpon] at h3
    obtain ⟨rfl, rfl⟩ := h3
    simp only [Oper.upon]
    exact ⟨trivial, Below.refl _ _⟩
   | halt x w1 => simp only [Oper.quietUpon] at h3
  ·rename_i hw
   exact ⟨undef, .inr ⟨by simpa using hw, rfl⟩, h⟩
 obtain ⟨v, hy, hn⟩ := hy
 exact fun w' hw' => wpJ_first hio (Region.noSelect_spec hs) f listed a w' (Region.free_spec hio hf) (closed_of hcl) (by simpa using hr) (hy.keep (KeepX.below hw')) fun w'' hw'' => hn w'' (hw'.trans (hw''.mono hw'.size))
theorem wp_of_list {o : Oper} {a : Act} {w : World} {K : Act → World → Prop} (hw : Region.wanted o (yielded ops a.tmps) = true) (h : wpList P ops (onlyN K) [o] a w) : o.wp P a w K never := by
 unfold wpList at h
 simp only [hw, if_true] at h
 rcases h with h | ⟨_, _, _, h⟩
 ·unfold Oper.wp at h ⊢
  generalize (execOp a.eval o).run P w = r at *
  cases r with
  | ok n w' =>
   cases n <;> simp only [Oper.upon] at h ⊢
   case value => exact h
   case skip => exact h
   case defer => exact h
   case enter f args =>
    refine Calls.mono h fun e w'' he => ?_
    cases e with
    | returned v => exact he
    | panicked c => exact he
    | outgrown => obtain ⟨_, _, hf⟩ := he; exact (show False from hf).elim
   case row row args => exact Rows.mono h fun _ _ he => he
  | halt x w' =>
   cases x <;> simp only [Oper.upon] at h ⊢
   case panic => exact h
 ·exact (show False from h).elim
/-- a call that answers one value and makes memory at most, first: it stands at any place -/
theorem J_call {f : Nat} {listed : Array Bool} {a : Act} {w : World} (i : Nat) (o : Oper) (v : Value) (hio : ops[i]? = some o)
  (hc : (closedB ops listed && (Region.noSelect ops && (Region.ready .any ops listed).contains i && Region.free .any ops listed i)) = true)
  (hw : Region.wanted o (yielded ops a.tmps) = true)
  (h : ∀ w', KeepX S w w' → wpList P ops (onlyN fun a' w'' => a' = a.put o.dst v ∧ Below w'.heap.size w' w'') [o] a w')
  (hn : wpJs S P ops Q f (listed.setIfInBounds i true) (a.put o.dst v) w) : wpJs S P ops Q (f + 1) listed a w := by
 simp only [Bool.and_eq_true] at hc
 obtain ⟨hcl, ⟨hs, hr⟩, hf⟩ := hc
 have hy : YieldsJ S P ops w o v a := .inl ⟨hw, fun w' hb => wp_of_list hw (h w' hb)⟩
 exact fun w' hw' => wpJ_first hio (Region.noSelect_spec hs) f listed a w' (Region.free_spec hio hf) (closed_of hcl) (by simpa using hr) (hy.keep (KeepX.below hw')) fun w'' hw'' => hn w'' (hw'.trans (hw''.mono hw'.size))
theorem eOpX_list {nd : Bool} {i : Nat} {o : Oper} {K : Act → World → Prop} {a : Act} {w : World} (hio : ops[i]? = some o)
  {K' : Act → World → Prop} (hK : ∀ a' w', K' a' w' → (nd = true → KeepX S w w') ∧ K a' w')
  (h : wpList P ops (onlyN K') [o] a w) : eOpX nd S P ops i K a w := by
 unfold eOpX
 simp only [hio]
 split
 ·rename_i hw
  exact wp_never hK (wp_of_list hw h)
 ·rename_i hw
  unfold wpList at h
  simp only [hw] at h
  exact (hK _ _ h).2
/-- the one that comes next -/
theorem J_loud1 {f : Nat} {listed : Array Bool} {a : Act} {w : World} (i : Nat) (o : Oper) (hio : ops[i]? = some o) (hr : (Region.ready .any ops listed == [i]) = true)
  (h : ∀ w', Below w.heap.size w w' → wpList P ops (onlyN fun a' w1 => KeepX S w' w1 ∧ wpJs S P ops Q f (listed.setIfInBounds i true) a' w1) [o] a w') : wpJs S P ops Q (f + 1) listed a w := by
 simp only [beq_iff_eq] at hr
 refine fun w' hw' => ⟨fun h0 => (by rw [hr] at h0; cases h0), fun j hj => ?_⟩
 rw [hr, List.mem_singleton] at hj
 subst hj
 exact eOpX_list hio (fun _ _ h => ⟨fun _ => h.1, h.2⟩) (h w' hw')
theorem J_loud2 {f : Nat} {listed : Array Bool} {a : Act} {w : World} (i j : Nat) (o o' : Oper) (hio : ops[i]? = some o) (hjo : ops[j]? = some o') (hr : (Region.ready .any ops listed == [i, j]) = true)
  (h : ∀ w', Below w.heap.size w w' → wpList P ops (onlyN fun a' w1 => KeepX S w' w1 ∧ wpJs S P ops Q f (listed.setIfInBounds i true) a' w1) [o] a w')
  (h' : ∀ w', Below w.heap.size w w' → wpList P ops (onlyN fun a' w1 => KeepX S w' w1 ∧ wpJs S P ops Q f (listed.setIfInBounds j true) a' w1) [o'] a w') : wpJs S P ops Q (f + 1) listed a w := by
 simp only [beq_iff_eq] at hr
 refine fun w' hw' => ⟨fun h0 => (by rw [hr] at h0; cases h0), fun k hk => ?_⟩
 rw [hr] at hk
 simp only [List.mem_cons, List.not_mem_nil, or_false] at hk
 rcases hk with rfl | rfl
 ·exact eOpX_list hio (fun _ _ h => ⟨fun _ => h.1, h.2⟩) (h w' hw')
 ·exact eOpX_list hjo (fun _ _ h => ⟨fun _ => h.1, h.2⟩) (h' w' hw')
theorem J_loud3 {f : Nat} {listed : Array Bool} {a : Act} {w : World} (i j k : Nat) (o o' o'' : Oper) (hio : ops[i]? = some o) (hjo : ops[j]? = some o') (hko : ops[k]? = some o'') (hr : (Region.ready .any ops listed == [i, j, k]) = true)
  (h : ∀ w', Below w.heap.size w w' → wpList P ops (onlyN fun a' w1 => KeepX S w' w1 ∧ wpJs S P ops Q f (listed.setIfInBounds i true) a' w1) [o] a w')
  (h' : ∀ w', Below w.heap.size w w' → wpList P ops (onlyN fun a' w1 => KeepX S w' w1 ∧ wpJs S P ops Q f (listed.setIfInBounds j true) a' w1) [o'] a w')
  (h'' : ∀ w', Below w.heap.size w w' → wpList P ops (onlyN fun a' w1 => KeepX S w' w1 ∧ wpJs S P ops Q f (listed.setIfInBounds k true) a' w1) [o''] a w') : wpJs S P ops Q (f + 1) listed a w := by
 simp only [beq_iff_eq] at hr
 refine fun w' hw' => ⟨fun h0 => (by rw [hr] at h0; cases h0), fun l hl => ?_⟩
 rw [hr] at hl
 simp only [List.mem_cons, List.not_mem_nil, or_false] at hl
 rcases hl with rfl | rfl | rfl
 ·exact eOpX_list hio (fun _ _ h => ⟨fun _ => h.1, h.2⟩) (h w' hw')
 ·exact eOpX_list hjo (fun _ _ h => ⟨fun _ => h.1, h.2⟩) (h' w' hw')
 ·exact eOpX_list hko (fun _ _ h => ⟨fun _ => h.1, h.2⟩) (h'' w' hw')
/-- the last of all: nothing need be kept -/
theorem J_last {f : Nat} {listed : Array Bool} {a : Act} {w : World} (i : Nat) (o : Oper) (hio : ops[i]? = some o) (hr : (sink ops i && (Region.ready .any ops listed == [i])) = true)
  (h : ∀ w', Below w.heap.size w w' → wpList P ops (onlyN fun a' w1 => wpJs S P ops Q f (listed.setIfInBounds i true) a' w1) [o] a w') : wpJs S P ops Q (f + 1) listed a w := by
 simp only [Bool.and_eq_true, beq_iff_eq] at hr
 obtain ⟨hs, hr⟩ := hr
 refine fun w' hw' => ⟨fun h0 => (by rw [hr] at h0; cases h0), fun j hj => ?_⟩
 rw [hr, List.mem_singleton] at hj
 subst hj
 rw [hs]
 exact eOpX_list hio (fun _ _ h => ⟨fun h => (by cases h), h⟩) (h w' hw')
theorem J_done {listed : Array Bool} {a : Act} {w : World} (hr : (Region.ready .any ops listed).isEmpty = true) (h : ∀ w', Below w.heap.size w w' → Q a w') : ∀ f, wpJs S P ops Q f listed a w
 | 0 => fun w' hw' => ⟨by simpa using hr, h w' hw'⟩
 | f + 1 => fun w' hw' => ⟨fun _ => h w' hw', fun i hi => by rw [List.isEmpty_iff.1 hr] at hi; cases hi⟩
theorem wp_region_junk (S : Nat → Prop) {id : Nat} {Q' : Exit → Act → World → Prop} {a : Act} {w : World} (hm : P.follows .mixedOrders = true)
  (h : wpJs S P ops (fun a' w' => Q' .normal a' w') ops.size (Array.replicate ops.size false) a w) : (Code.region id ops true).wp P Q' a w :=
 wp_region_any hm (wpAny_of_J (fun _ _ h => h) _ _ _ _ (h { w with drawn := w.drawn + 1 } (Below.refl _ _).drew))
end
end Go.Proofs.YtnnhobbabcfogaaDoor
