/-
 inline as plain data: what puts make of a procedure, and which places of it stand for which places of the old one.
-/
import Derived.Test.YtmcddolkpcgddaaZHazardMarks26
set_option linter.all false
namespace Go.Proofs.Ytmcddolkpcgddaa
set_option linter.unusedVariables false

def copI (d a : Int) : In := ⟨2, d, a, -1, 0, 0, 0, 0, 0, [], false⟩
def zroI (d : Int) : In := ⟨1, d, -1, -1, 0, 0, 0, 0, 0, [], false⟩
def argsL (args : List Int) (g : Int) : List In := (List.range args.length).map fun (k : Nat) => copI (g + (k : Int)) (args.getD k 0)
def liveR (q : Pr) : List Nat := (List.range q.regs.toNat).filter fun (r : Nat) => liveP q 0 0 (r : Int) && decide (q.params ≤ (r : Int))
def handL (q : Pr) (args : List Int) (g : Int) : List In := argsL args g ++ (liveR q).map fun (r : Nat) => zroI (g + (r : Int))
def shF (r g : Int) : Int := if r = -1 then r else r + g
def movI (g : Int) (i : In) : In := { i with d := shF i.d g, a := shF i.a g, b := shF i.b g }
/-- what a small procedure's block becomes -/
def movB (x : Bk) (g c d on : Int) : Bk :=
 if x.fin = 3 then ⟨x.ins.map (movI g) ++ (if d ≠ -1 then [copI d (x.a + g)] else []), 1, -1, on, x.els⟩
 else if x.fin = 2 then ⟨x.ins.map (movI g), 2, x.a + g, x.to + c, x.els + c⟩
 else ⟨x.ins.map (movI g), x.fin, x.a, x.to + c, x.els⟩
def smallP (p : Pr) : Bool := decide (p.objs.length = 0) && (decide (p.blks.length + insN p ≤ 24) && p.blks.all fun b => b.ins.all fun i => i.op != 9)
def smallC (m : Md) (i : In) : Bool := i.op == 9 && smallP (pk m i.obj.toNat)
def callAt (m : Md) (b : Bk) : Option Nat := b.ins.findIdx? (smallC m)
def bq (p : Pr) (n : Nat) : Bk := p.blks.getD n default
/-- a small procedure in the place of a call -/
def putX (q : Pr) (p : Pr) (n at' : Nat) (x : Bk) (i : In) : Pr :=
 { p with regs := p.regs + q.regs, blks := p.blks.set n ⟨x.ins.take at' ++ handL q i.args p.regs, 1, -1, (p.blks.length : Int), 0⟩ ++ (q.blks.map (fun y => movB y p.regs (p.blks.length : Int) i.d ((p.blks.length + q.blks.length : Nat) : Int)) ++ [⟨x.ins.drop (at' + 1), x.fin, x.a, x.to, x.els⟩]) }
def putP (m : Md) (p : Pr) (n at' : Nat) : Pr :=
 putX (pk m ((bq p n).ins.getD at' default).obj.toNat) p n at' (bq p n) ((bq p n).ins.getD at' default)
section
variable {q p : Pr} {n at' : Nat} {x : Bk} {i : In}
theorem putX_len (q p : Pr) (n at' : Nat) (x : Bk) (i : In) : (putX q p n at' x i).blks.length = p.blks.length + q.blks.length + 1 := by
 unfold putX; simp; omega
theorem putX_at (hn : n < p.blks.length) : bq (putX q p n at' x i) n = ⟨x.ins.take at' ++ handL q i.args p.regs, 1, -1, (p.blks.length : Int), 0⟩ := by
 unfold bq putX
 simp only [List.getD]
 rw [List.getElem?_append_left (by simpa using hn), List.getElem?_set_self hn]
 rfl
theorem putX_old {k : Nat} (hk : k < p.blks.length) (h : k ≠ n) : bq (putX q p n at' x i) k = bq p k := by
 unfold bq putX
 simp only [List.getD]
 rw [List.getElem?_append_left (by simpa using hk), List.getElem?_set_ne (Ne.symm h)]
theorem putX_in {k : Nat} (hk : k < q.blks.length) : bq (putX q p n at' x i) (p.blks.length + k) = movB (bq q k) p.regs (p.blks.length : Int) i.d ((p.blks.length + q.blks.length : Nat) : Int) := by
 unfold bq putX
 simp only [List.getD]
 rw [List.getElem?_append_right (by simp), List.length_set, Nat.add_sub_cancel_left, List.getElem?_append_left (by simpa using hk)]
 simp [hk]
theorem putX_on : bq (putX q p n at' x i) (p.blks.length + q.blks.length) = ⟨x.ins.drop (at' + 1), x.fin, x.a, x.to, x.els⟩ := by
 unfold bq putX
 simp only [List.getD]
 rw [List.getElem?_append_right (by simp), List.length_set, Nat.add_sub_cancel_left, List.getElem?_append_right (by simp)]
 simp
end
theorem smallC_9 {m : Md} {i : In} (h : smallC m i = true) : i.op = 9 ∧ smallP (pk m i.obj.toNat) = true := by
 unfold smallC at h; simpa using h
theorem callAt_some {m : Md} {b : Bk} {k : Nat} (h : callAt m b = some k) : k < b.ins.length ∧ smallC m (b.ins.getD k default) = true := by
 unfold callAt at h
 rw [List.findIdx?_eq_some_iff_getElem] at h
 obtain ⟨h1, h2, -⟩ := h
 exact ⟨h1, by simpa [List.getD, h1] using h2⟩
theorem handL_op {q : Pr} {args : List Int} {g : Int} {i : In} (h : i ∈ handL q args g) : i.op = 1 ∨ i.op = 2 := by
 unfold handL argsL at h
 rcases List.mem_append.1 h with h | h
 ·obtain ⟨k, -, rfl⟩ := List.mem_map.1 h; exact .inr rfl
 ·obtain ⟨k, -, rfl⟩ := List.mem_map.1 h; exact .inl rfl
theorem small_op {p : Pr} (h : smallP p = true) {k : Nat} {i : In} (hi : i ∈ (bq p k).ins) : i.op ≠ 9 := by
 unfold smallP at h
 simp only [Bool.and_eq_true, List.all_eq_true] at h
 by_cases hk : k < p.blks.length
 ·have := h.2.2 (bq p k) (by unfold bq; simp [List.getD, hk]) i hi
  simpa using this
 ·unfold bq at hi
  have e : p.blks.getD k default = default := by simp [List.getD, Nat.le_of_not_lt hk]
  rw [e] at hi
  cases hi
theorem movB_op {p : Pr} (h : smallP p = true) {k : Nat} {g c d on : Int} {i : In} (hi : i ∈ (movB (bq p k) g c d on).ins) : i.op ≠ 9 := by
 have H : ∀ i ∈ (bq p k).ins.map (movI g), i.op ≠ 9 := fun i hi => by
  obtain ⟨j, hj, rfl⟩ := List.mem_map.1 hi
  exact small_op (i := j) h hj
 unfold movB at hi
 split at hi
 ·rcases List.mem_append.1 hi with hi | hi
  ·exact H i hi
  ·split at hi
   ·simp only [List.mem_singleton] at hi; subst hi; show (2 : Int) ≠ 9; decide
   ·cases hi
 ·split at hi <;> exact H i hi
/-- what is left of an old block stands from a place on -/
inductive Mt (m : Md) (R : Int) (Q : Pr) (B : Bk) : List In → Nat → Nat → Prop
 | fin (b i : Nat) (hb : b < Q.blks.length) (hi : i = (bq Q b).ins.length) (hf : (bq Q b).fin = B.fin) (ha : (bq Q b).a = B.a) (ht : (bq Q b).to = B.to) (he : (bq Q b).els = B.els) : Mt m R Q B [] b i
 | same (x : In) (r : List In) (b i : Nat) (hb : b < Q.blks.length) (hi : i < (bq Q b).ins.length) (hx : (bq Q b).ins.getD i default = x) (hr : Mt m R Q B r b (i + 1)) : Mt m R Q B (x :: r) b i
 | call (x : In) (r : List In) (b i : Nat) (g : Int) (c on : Nat) (hb : b < Q.blks.length) (hi : i ≤ (bq Q b).ins.length) (hs : smallC m x = true) (hl : (bq Q b).ins.drop i = handL (pk m x.obj.toNat) x.args g) (hf : (bq Q b).fin = 1) (ht : (bq Q b).to = (c : Int))
   (hc : ∀ k, k < (pk m x.obj.toNat).blks.length → c + k < Q.blks.length ∧ bq Q (c + k) = movB (bq (pk m x.obj.toNat) k) g c x.d on) (hR : R ≤ g) (hQ : g + (pk m x.obj.toNat).regs ≤ Q.regs) (hr : Mt m R Q B r on 0) : Mt m R Q B (x :: r) b i
theorem getD_take {α : Type} {l : List α} {k n : Nat} {d : α} (h : k < n) : (l.take n).getD k d = l.getD k d := by
 simp [List.getD, List.getElem?_take, h]
theorem getD_drop {α : Type} {l : List α} {k n : Nat} {d : α} : (l.drop n).getD k d = l.getD (n + k) d := by
 simp [List.getD]
theorem getD_appL {α : Type} {l k : List α} {j : Nat} {d : α} (h : j < l.length) : (l ++ k).getD j d = l.getD j d := by
 simp [List.getD, List.getElem?_append_left h]
/-- where a place has gone -/
def rmB (n at' on b i : Nat) : Nat × Nat := if b = n ∧ at' < i then (on, i - at' - 1) else (b, i)
theorem rm_no {n at' on b i : Nat} (h : ¬ (b = n ∧ at' < i)) : rmB n at' on b i = (b, i) := if_neg h
theorem rm_yes {n at' on b i : Nat} (h : b = n ∧ at' < i) : rmB n at' on b i = (on, i - at' - 1) := if_pos h
theorem Mt.put {m : Md} {R : Int} {Q : Pr} {B : Bk} {n at' : Nat} (hn : n < Q.blks.length) (ha : callAt m (bq Q n) = some at') (hRQ : R ≤ Q.regs) (h0 : 0 ≤ (pk m ((bq Q n).ins.getD at' default).obj.toNat).regs) {l : List In} {b i : Nat} (h : Mt m R Q B l b i) :
  Mt m R (putP m Q n at') B l (rmB n at' (Q.blks.length + (pk m ((bq Q n).ins.getD at' default).obj.toNat).blks.length) b i).1 (rmB n at' (Q.blks.length + (pk m ((bq Q n).ins.getD at' default).obj.toNat).blks.length) b i).2 := by
 obtain ⟨hat, hsm⟩ := callAt_some ha
 have hP : putP m Q n at' = putX (pk m ((bq Q n).ins.getD at' default).obj.toNat) Q n at' (bq Q n) ((bq Q n).ins.getD at' default) := rfl
 rw [hP]
 generalize hI : (bq Q n).ins.getD at' default = I at *
 have hon := @putX_on (pk m I.obj.toNat) Q n at' (bq Q n) I
 have hnew := @putX_at (pk m I.obj.toNat) Q n at' (bq Q n) I hn
 have hold : ∀ k, k < Q.blks.length → k ≠ n → bq (putX (pk m I.obj.toNat) Q n at' (bq Q n) I) k = bq Q k := fun k h1 h2 => putX_old h1 h2
 have hin : ∀ k, k < (pk m I.obj.toNat).blks.length → bq (putX (pk m I.obj.toNat) Q n at' (bq Q n) I) (Q.blks.length + k) = _ := fun k h1 => putX_in h1
 have hlen := putX_len (pk m I.obj.toNat) Q n at' (bq Q n) I
 have hregs : (putX (pk m I.obj.toNat) Q n at' (bq Q n) I).regs = Q.regs + (pk m I.obj.toNat).regs := rfl
 generalize hQ' : putX (pk m I.obj.toNat) Q n at' (bq Q n) I = Q' at *
 generalize hL : (pk m I.obj.toNat).blks.length = L at *
 induction h with
 | fin b i hb hi hf ha' ht he =>
  by_cases e : b = n ∧ at' < i
  ·rw [rm_yes e]
   obtain ⟨rfl, e⟩ := e
   refine Mt.fin _ _ (by omega) ?_ ?_ ?_ ?_ ?_ <;> rw [hon]
   ·simp only [List.length_drop]; omega
   ·exact hf
   ·exact ha'
   ·exact ht
   ·exact he
  ·have hbn : b ≠ n := fun q => e ⟨q, by subst q; omega⟩
   rw [rm_no e]
   have e2 := hold b hb hbn
   exact Mt.fin _ _ (by dsimp only; omega) (by rw [e2]; exact hi) (by rw [e2]; exact hf) (by rw [e2]; exact ha') (by rw [e2]; exact ht) (by rw [e2]; exact he)
 | same x r b i hb hi hx hr ih =>
  by_cases hbn : b = n
  ·subst hbn
   rcases Nat.lt_trichotomy i at' with e | e | e
   ·rw [rm_no (fun q => by omega)] at ih ⊢
    refine Mt.same _ _ _ _ (by dsimp only; omega) (by rw [hnew]; dsimp only; rw [List.length_append, List.length_take]; omega) ?_ ih
    rw [hnew]
    dsimp only
    rw [getD_appL (by rw [List.length_take]; omega), getD_take e]
    exact hx
   ·subst e
    rw [rm_no (fun q => by omega)]
    rw [rm_yes ⟨rfl, by omega⟩] at ih
    have hxI : x = I := by rw [← hx, hI]
    subst hxI
    refine Mt.call _ _ _ _ Q.regs Q.blks.length (Q.blks.length + L) (by dsimp only; omega) (by rw [hnew]; dsimp only; rw [List.length_append, List.length_take]; omega) hsm ?_ (by rw [hnew]) (by rw [hnew]) (fun k hk => ⟨by omega, hin k (by omega)⟩) hRQ (by rw [hregs]; exact Int.le_refl _) ?_
    ·rw [hnew]
     dsimp only
     rw [List.drop_append, List.drop_eq_nil_of_le (by rw [List.length_take]; omega), List.length_take, List.nil_append, show i - min i (bq Q b).ins.length = 0 by omega, List.drop_zero]
    ·rw [show i + 1 - i - 1 = 0 by omega] at ih; exact ih
   ·rw [rm_yes ⟨rfl, e⟩]
    rw [rm_yes ⟨rfl, by omega⟩] at ih
    refine Mt.same _ _ _ _ (by dsimp only; omega) ?_ ?_ ?_
    ·rw [hon]; dsimp only; rw [List.length_drop]; omega
    ·rw [hon]; dsimp only; rw [getD_drop, ← hx]; congr 1; omega
    ·have e2 : i + 1 - at' - 1 = i - at' - 1 + 1 := by omega
     rw [e2] at ih; exact ih
  ·rw [rm_no (fun q => hbn q.1)] at ih ⊢
   have e2 := hold b hb hbn
   exact Mt.same _ _ _ _ (by dsimp only; omega) (by rw [e2]; exact hi) (by rw [e2]; exact hx) ih
 | call x r b i g c on hb hi hs hl hf ht hc hR hQ hr ih =>
  rw [rm_no (fun q => by omega)] at ih
  have hcn : ∀ k, k < (pk m x.obj.toNat).blks.length → c + k ≠ n := fun k hk e => by
   obtain ⟨h1, h2⟩ := hc k hk
   have h3 : (bq Q (c + k)).ins.getD at' default ∈ (bq Q (c + k)).ins := getD_in (by rw [e]; exact hat)
   have h4 : ((bq Q (c + k)).ins.getD at' default).op = 9 := by rw [e, hI]; exact (smallC_9 hsm).1
   rw [h2] at h3 h4
   exact movB_op (smallC_9 hs).2 h3 h4
  have hc' : ∀ k, k < (pk m x.obj.toNat).blks.length → c + k < Q'.blks.length ∧ bq Q' (c + k) = movB (bq (pk m x.obj.toNat) k) g c x.d on := fun k hk => ⟨by have := (hc k hk).1; omega, (hold _ (hc k hk).1 (hcn k hk)).trans (hc k hk).2⟩
  by_cases hbn : b = n
  ·subst hbn
   have e : at' < i := by
    apply Classical.byContradiction
    intro hge
    have h3 : (bq Q b).ins.getD at' default ∈ (bq Q b).ins.drop i := by
     have : (bq Q b).ins.getD at' default = ((bq Q b).ins.drop i).getD (at' - i) default := by rw [getD_drop]; congr 1; omega
     rw [this]
     exact getD_in (by rw [List.length_drop]; omega)
    rw [hl, hI] at h3
    have := handL_op h3
    have := (smallC_9 hsm).1
    omega
   rw [rm_yes ⟨rfl, e⟩]
   refine Mt.call x r _ _ g c on (by dsimp only; omega) ?_ hs ?_ ?_ ?_ hc' hR (by omega) ih
   ·rw [hon]; dsimp only; rw [List.length_drop]; omega
   ·rw [hon]; dsimp only; rw [List.drop_drop, ← hl]; congr 1; omega
   ·rw [hon]; exact hf
   ·rw [hon]; exact ht
  ·rw [rm_no (fun q => hbn q.1)]
   have e2 := hold b hb hbn
   exact Mt.call x r _ _ g c on (by dsimp only; omega) (by rw [e2]; exact hi) hs (by rw [e2]; exact hl) (by rw [e2]; exact hf) (by rw [e2]; exact ht) hc' hR (by omega) ih
/-- a procedure stands for an old one -/
structure MtP (m : Md) (P Q : Pr) : Prop where
 regs : P.regs ≤ Q.regs
 objs : Q.objs = P.objs
 params : Q.params = P.params
 void : Q.void = P.void
 len : P.blks.length ≤ Q.blks.length
 mt : ∀ b, b < P.blks.length → Mt m P.regs Q (bq P b) (bq P b).ins b 0
theorem mt_drop (m : Md) (P : Pr) {b : Nat} (hb : b < P.blks.length) : ∀ k i, i + k = (bq P b).ins.length → Mt m P.regs P (bq P b) ((bq P b).ins.drop i) b i
 | 0, i, h => by
  rw [List.drop_eq_nil_of_le (by omega)]
  exact Mt.fin _ _ hb (by omega) rfl rfl rfl rfl
 | k + 1, i, h => by
  rw [drop_cons _ _ (by omega)]
  exact Mt.same _ _ _ _ hb (by omega) rfl (mt_drop m P hb k (i + 1) (by omega))
theorem MtP.refl (m : Md) (P : Pr) : MtP m P P := ⟨Int.le_refl _, rfl, rfl, rfl, Nat.le_refl _, fun b hb => by have := mt_drop m P hb (bq P b).ins.length 0 (by omega); rwa [List.drop_zero] at this⟩
theorem MtP.put {m : Md} {P Q : Pr} (h : MtP m P Q) {n at' : Nat} (hn : n < Q.blks.length) (ha : callAt m (bq Q n) = some at') (h0 : 0 ≤ (pk m ((bq Q n).ins.getD at' default).obj.toNat).regs) : MtP m P (putP m Q n at') := by
 refine ⟨?_, h.objs, h.params, h.void, ?_, fun b hb => ?_⟩
 ·have := h.regs
  show P.regs ≤ Q.regs + (pk m ((bq Q n).ins.getD at' default).obj.toNat).regs
  omega
 ·have := h.len
  unfold putP
  rw [putX_len]
  omega
 ·have := Mt.put hn ha h.regs h0 (h.mt b hb)
  rw [rm_no (fun q => by omega)] at this
  exact this
end Go.Proofs.Ytmcddolkpcgddaa
