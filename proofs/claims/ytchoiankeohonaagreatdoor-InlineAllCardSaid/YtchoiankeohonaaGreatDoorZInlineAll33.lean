/-
 inline as plain data: what puts make of a procedure, and which places of it stand for which places of the old one.; What is live behind each instruction: the marking carried back from the block's end is the search.; Which instructions and stores nobody asks for, as plain data; places of which something holds, rising.; Contracts: which stores are hidden; places of which something holds; the document's idle instructions and stores.; Contracts: is a procedure small (inline's, the document's).
-/
import Derived.Test.YtchoiankeohonaaGreatDoorZInlineAll32
import Derived.Test.YtchoiankeohonaaGreatDoorZInlineAll31
import Derived.Test.YtchoiankeohonaaGreatDoorZInlineAll03
import Derived.Test.YtchoiankeohonaaGreatDoorZInlineAll01
import Derived.Test.YtchoiankeohonaaGreatDoorZInlineAll26
import Derived.Test.YtchoiankeohonaaGreatDoorZInlineAll30
import Derived.Test.YtchoiankeohonaaGreatDoorZInlineAll04
import Derived.Test.YtchoiankeohonaaGreatDoorZInlineAll07
import Derived.Test.YtchoiankeohonaaGreatDoorZInlineAll21
import Derived.BigQuiet

set_option linter.all false
namespace Go.Proofs.YtchoiankeohonaaGreatDoor
set_option linter.unusedVariables false

def copI (d a : Int) : In := ⟨2, d, a, -1, 0, 0, 0, 0, 0, [], false⟩
def zroI (d : Int) : In := ⟨1, d, -1, -1, 0, 0, 0, 0, 0, [], false⟩
def argsL (args : List Int) (g : Int) : List In := (List.range args.length).map fun (k : Nat) => copI (g + (k : Int)) (args.getD k 0)
def liveR (q : Pr) : List Nat := (List.range q.regs.toNat).filter fun (r : Nat) => liveP q 0 0 (r : Int) && decide (q.params ≤ (r : Int))
def handL (q : Pr) (args : List Int) (g : Int) : List In := argsL args g ++ (liveR q).map fun (r : Nat) => zroI (g + (r : Int))
def shF (r g : Int) : Int := if r = -1 then r else r + g
def movI (g : Int) (i : In) : In := { i with d := shF i.d g, a := shF i.a g, b := shF i.b g }
/-- what a small procedure's block becomes -/
def movB (x : Bk) (g c d on : Int) : Bk :=
 if x.fin = 3 then ⟨x.ins.map (movI g) ++ (if d ≠ -1 then [copI d (x.a + g)] else []), 1, -1, on, x.els⟩
 else if x.fin = 2 then ⟨x.ins.map (movI g), 2, x.a + g, x.to + c, x.els + c⟩
 else ⟨x.ins.map (movI g), x.fin, x.a, x.to + c, x.els⟩
def smallP (p : Pr) : Bool := decide (p.objs.length = 0) && (decide (p.blks.length + insN p ≤ 24) && p.blks.all fun b => b.ins.all fun i => i.op != 9)
def smallC (m : Md) (i : In) : Bool := i.op == 9 && smallP (pk m i.obj.toNat)
def callAt (m : Md) (b : Bk) : Option Nat := b.ins.findIdx? (smallC m)
def bq (p : Pr) (n : Nat) : Bk := p.blks.getD n default
/-- a small procedure in the place of a call -/
def putX (q : Pr) (p : Pr) (n at' : Nat) (x : Bk) (i : In) : Pr :=
 { p with regs := p.regs + q.regs, blks := p.blks.set n ⟨x.ins.take at' ++ handL q i.args p.regs, 1, -1, (p.blks.length : Int), 0⟩ ++ (q.blks.map (fun y => movB y p.regs (p.blks.length : Int) i.d ((p.blks.length + q.blks.length : Nat) : Int)) ++ [⟨x.ins.drop (at' + 1), x.fin, x.a, x.to, x.els⟩]) }
def putP (m : Md) (p : Pr) (n at' : Nat) : Pr :=
 putX (pk m ((bq p n).ins.getD at' default).obj.toNat) p n at' (bq p n) ((bq p n).ins.getD at' default)
def sizeQ (p : Pr) : Nat := p.blks.length + insN p
/-- the blocks one by one, those that are put behind, too -/
def inlR (m : Md) : Nat → Nat → Pr → Bool → Pr
 | 0, _, p, _ => p
 | f + 1, k, p, full =>
  if k < p.blks.length then
   match callAt m (bq p k) with
   | none => inlR m f (k + 1) p full
   | some at' =>
    if full = true then inlR m f (k + 1) p full
    else if 2000 < sizeQ (putP m p k at') ∨ 8000 < (putP m p k at').regs then inlR m f (k + 1) p true
    else inlR m f (k + 1) (putP m p k at') false
  else p
def inlP (m : Md) (p : Pr) : Pr := inlR m 6000 0 p false

section
variable {q p : Pr} {n at' : Nat} {x : Bk} {i : In}
theorem putX_len (q p : Pr) (n at' : Nat) (x : Bk) (i : In) : (putX q p n at' x i).blks.length = p.blks.length + q.blks.length + 1 := by
 unfold putX; simp; omega
theorem putX_at (hn : n < p.blks.length) : bq (putX q p n at' x i) n = ⟨x.ins.take at' ++ handL q i.args p.regs, 1, -1, (p.blks.length : Int), 0⟩ := by
 unfold bq putX
 simp only [List.getD]
 rw [List.getElem?_append_left (by simpa using hn), List.getElem?_set_self hn]
 rfl
theorem putX_old {k : Nat} (hk : k < p.blks.length) (h : k ≠ n) : bq (putX q p n at' x i) k = bq p k := by
 unfold bq putX
 simp only [List.getD]
 rw [List.getElem?_append_left (by simpa using hk), List.getElem?_set_ne (Ne.symm h)]
theorem putX_in {k : Nat} (hk : k < q.blks.length) : bq (putX q p n at' x i) (p.blks.length + k) = movB (bq q k) p.regs (p.blks.length : Int) i.d ((p.blks.length + q.blks.length : Nat) : Int) := by
 unfold bq putX
 simp only [List.getD]
 rw [List.getElem?_append_right (by simp), List.length_set, Nat.add_sub_cancel_left, List.getElem?_append_left (by simpa using hk)]
 simp [hk]
theorem putX_on : bq (putX q p n at' x i) (p.blks.length + q.blks.length) = ⟨x.ins.drop (at' + 1), x.fin, x.a, x.to, x.els⟩ := by
 unfold bq putX
 simp only [List.getD]
 rw [List.getElem?_append_right (by simp), List.length_set, Nat.add_sub_cancel_left, List.getElem?_append_right (by simp)]
 simp
end
theorem smallC_9 {m : Md} {i : In} (h : smallC m i = true) : i.op = 9 ∧ smallP (pk m i.obj.toNat) = true := by
 unfold smallC at h; simpa using h
theorem callAt_some {m : Md} {b : Bk} {k : Nat} (h : callAt m b = some k) : k < b.ins.length ∧ smallC m (b.ins.getD k default) = true := by
 unfold callAt at h
 rw [List.findIdx?_eq_some_iff_getElem] at h
 obtain ⟨h1, h2, -⟩ := h
 exact ⟨h1, by simpa [List.getD, h1] using h2⟩
theorem handL_op {q : Pr} {args : List Int} {g : Int} {i : In} (h : i ∈ handL q args g) : i.op = 1 ∨ i.op = 2 := by
 unfold handL argsL at h
 rcases List.mem_append.1 h with h | h
 ·obtain ⟨k, -, rfl⟩ := List.mem_map.1 h; exact .inr rfl
 ·obtain ⟨k, -, rfl⟩ := List.mem_map.1 h; exact .inl rfl
theorem small_op {p : Pr} (h : smallP p = true) {k : Nat} {i : In} (hi : i ∈ (bq p k).ins) : i.op ≠ 9 := by
 unfold smallP at h
 simp only [Bool.and_eq_true, List.all_eq_true] at h
 by_cases hk : k < p.blks.length
 ·have := h.2.2 (bq p k) (by unfold bq; simp [List.getD, hk]) i hi
  simpa using this
 ·unfold bq at hi
  have e : p.blks.getD k default = default := by simp [List.getD, Nat.le_of_not_lt hk]
  rw [e] at hi
  cases hi
theorem movB_op {p : Pr} (h : smallP p = true) {k : Nat} {g c d on : Int} {i : In} (hi : i ∈ (movB (bq p k) g c d on).ins) : i.op ≠ 9 := by
 have H : ∀ i ∈ (bq p k).ins.map (movI g), i.op ≠ 9 := fun i hi => by
  obtain ⟨j, hj, rfl⟩ := List.mem_map.1 hi
  exact small_op (i := j) h hj
 unfold movB at hi
 split at hi
 ·rcases List.mem_append.1 hi with hi | hi
  ·exact H i hi
  ·split at hi
   ·simp only [List.mem_singleton] at hi; subst hi; show (2 : Int) ≠ 9; decide
   ·cases hi
 ·split at hi <;> exact H i hi
/-- what is left of an old block stands from a place on -/
inductive Mt (m : Md) (R : Int) (Q : Pr) (B : Bk) : List In → Nat → Nat → Prop
 | fin (b i : Nat) (hb : b < Q.blks.length) (hi : i = (bq Q b).ins.length) (hf : (bq Q b).fin = B.fin) (ha : (bq Q b).a = B.a) (ht : (bq Q b).to = B.to) (he : (bq Q b).els = B.els) : Mt m R Q B [] b i
 | same (x : In) (r : List In) (b i : Nat) (hb : b < Q.blks.length) (hi : i < (bq Q b).ins.length) (hx : (bq Q b).ins.getD i default = x) (hr : Mt m R Q B r b (i + 1)) : Mt m R Q B (x :: r) b i
 | call (x : In) (r : List In) (b i : Nat) (g : Int) (c on : Nat) (hb : b < Q.blks.length) (hi : i ≤ (bq Q b).ins.length) (hs : smallC m x = true) (hl : (bq Q b).ins.drop i = handL (pk m x.obj.toNat) x.args g) (hf : (bq Q b).fin = 1) (ht : (bq Q b).to = (c : Int))
   (hc : ∀ k, k < (pk m x.obj.toNat).blks.length → c + k < Q.blks.length ∧ bq Q (c + k) = movB (bq (pk m x.obj.toNat) k) g c x.d on) (hR : R ≤ g) (hQ : g + (pk m x.obj.toNat).regs ≤ Q.regs) (hr : Mt m R Q B r on 0) : Mt m R Q B (x :: r) b i
theorem getD_take {α : Type} {l : List α} {k n : Nat} {d : α} (h : k < n) : (l.take n).getD k d = l.getD k d := by
 simp [List.getD, List.getElem?_take, h]
theorem getD_drop {α : Type} {l : List α} {k n : Nat} {d : α} : (l.drop n).getD k d = l.getD (n + k) d := by
 simp [List.getD]
theorem getD_appL {α : Type} {l k : List α} {j : Nat} {d : α} (h : j < l.length) : (l ++ k).getD j d = l.getD j d := by
 simp [List.getD, List.getElem?_append_left h]
/-- where a place has gone -/
def rmB (n at' on b i : Nat) : Nat × Nat := if b = n ∧ at' < i then (on, i - at' - 1) else (b, i)
theorem rm_no {n at' on b i : Nat} (h : ¬ (b = n ∧ at' < i)) : rmB n at' on b i = (b, i) := if_neg h
theorem rm_yes {n at' on b i : Nat} (h : b = n ∧ at' < i) : rmB n at' on b i = (on, i - at' - 1) := if_pos h
theorem Mt.put {m : Md} {R : Int} {Q : Pr} {B : Bk} {n at' : Nat} (hn : n < Q.blks.length) (ha : callAt m (bq Q n) = some at') (hRQ : R ≤ Q.regs) (h0 : 0 ≤ (pk m ((bq Q n).ins.getD at' default).obj.toNat).regs) {l : List In} {b i : Nat} (h : Mt m R Q B l b i) :
  Mt m R (putP m Q n at') B l (rmB n at' (Q.blks.length + (pk m ((bq Q n).ins.getD at' default).obj.toNat).blks.length) b i).1 (rmB n at' (Q.blks.length + (pk m ((bq Q n).ins.getD at' default).obj.toNat).blks.length) b i).2 := by
 obtain ⟨hat, hsm⟩ := callAt_some ha
 have hP : putP m Q n at' = putX (pk m ((bq Q n).ins.getD at' default).obj.toNat) Q n at' (bq Q n) ((bq Q n).ins.getD at' default) := rfl
 rw [hP]
 generalize hI : (bq Q n).ins.getD at' default = I at *
 have hon := @putX_on (pk m I.obj.toNat) Q n at' (bq Q n) I
 have hnew := @putX_at (pk m I.obj.toNat) Q n at' (bq Q n) I hn
 have hold : ∀ k, k < Q.blks.length → k ≠ n → bq (putX (pk m I.obj.toNat) Q n at' (bq Q n) I) k = bq Q k := fun k h1 h2 => putX_old h1 h2
 have hin : ∀ k, k < (pk m I.obj.toNat).blks.length → bq (putX (pk m I.obj.toNat) Q n at' (bq Q n) I) (Q.blks.length + k) = _ := fun k h1 => putX_in h1
 have hlen := putX_len (pk m I.obj.toNat) Q n at' (bq Q n) I
 have hregs : (putX (pk m I.obj.toNat) Q n at' (bq Q n) I).regs = Q.regs + (pk m I.obj.toNat).regs := rfl
 generalize hQ' : putX (pk m I.obj.toNat) Q n at' (bq Q n) I = Q' at *
 generalize hL : (pk m I.obj.toNat).blks.length = L at *
 induction h with
 | fin b i hb hi hf ha' ht he =>
  by_cases e : b = n ∧ at' < i
  ·rw [rm_yes e]
   obtain ⟨rfl, e⟩ := e
   refine Mt.fin _ _ (by omega) ?_ ?_ ?_ ?_ ?_ <;> rw [hon]
   ·simp only [List.length_drop]; omega
   ·exact hf
   ·exact ha'
   ·exact ht
   ·exact he
  ·have hbn : b ≠ n := fun q => e ⟨q, by subst q; omega⟩
   rw [rm_no e]
   have e2 := hold b hb hbn
   exact Mt.fin _ _ (by dsimp only; omega) (by rw [e2]; exact hi) (by rw [e2]; exact hf) (by rw [e2]; exact ha') (by rw [e2]; exact ht) (by rw [e2]; exact he)
 | same x r b i hb hi hx hr ih =>
  by_cases hbn : b = n
  ·subst hbn
   rcases Nat.lt_trichotomy i at' with e | e | e
   ·rw [rm_no (fun q => by omega)] at ih ⊢
    refine Mt.same _ _ _ _ (by dsimp only; omega) (by rw [hnew]; dsimp only; rw [List.length_append, List.length_take]; omega) ?_ ih
    rw [hnew]
    dsimp only
    rw [getD_appL (by rw [List.length_take]; omega), getD_take e]
    exact hx
   ·subst e
    rw [rm_no (fun q => by omega)]
    rw [rm_yes ⟨rfl, by omega⟩] at ih
    have hxI : x = I := by rw [← hx, hI]
    subst hxI
    refine Mt.call _ _ _ _ Q.regs Q.blks.length (Q.blks.length + L) (by dsimp only; omega) (by rw [hnew]; dsimp only; rw [List.length_append, List.length_take]; omega) hsm ?_ (by rw [hnew]) (by rw [hnew]) (fun k hk => ⟨by omega, hin k (by omega)⟩) hRQ (by rw [hregs]; exact Int.le_refl _) ?_
    ·rw [hnew]
     dsimp only
     rw [List.drop_append, List.drop_eq_nil_of_le (by rw [List.length_take]; omega), List.length_take, List.nil_append, show i - min i (bq Q b).ins.length = 0 by omega, List.drop_zero]
    ·rw [show i + 1 - i - 1 = 0 by omega] at ih; exact ih
   ·rw [rm_yes ⟨rfl, e⟩]
    rw [rm_yes ⟨rfl, by omega⟩] at ih
    refine Mt.same _ _ _ _ (by dsimp only; omega) ?_ ?_ ?_
    ·rw [hon]; dsimp only; rw [List.length_drop]; omega
    ·rw [hon]; dsimp only; rw [getD_drop, ← hx]; congr 1; omega
    ·have e2 : i + 1 - at' - 1 = i - at' - 1 + 1 := by omega
     rw [e2] at ih; exact ih
  ·rw [rm_no (fun q => hbn q.1)] at ih ⊢
   have e2 := hold b hb hbn
   exact Mt.same _ _ _ _ (by dsimp only; omega) (by rw [e2]; exact hi) (by rw [e2]; exact hx) ih
 | call x r b i g c on hb hi hs hl hf ht hc hR hQ hr ih =>
  rw [rm_no (fun q => by omega)] at ih
  have hcn : ∀ k, k < (pk m x.obj.toNat).blks.length → c + k ≠ n := fun k hk e => by
   obtain ⟨h1, h2⟩ := hc k hk
   have h3 : (bq Q (c + k)).ins.getD at' default ∈ (bq Q (c + k)).ins := getD_in (by rw [e]; exact hat)
   have h4 : ((bq Q (c + k)).ins.getD at' default).op = 9 := by rw [e, hI]; exact (smallC_9 hsm).1
   rw [h2] at h3 h4
   exact movB_op (smallC_9 hs).2 h3 h4
  have hc' : ∀ k, k < (pk m x.obj.toNat).blks.length → c + k < Q'.blks.length ∧ bq Q' (c + k) = movB (bq (pk m x.obj.toNat) k) g c x.d on := fun k hk => ⟨by have := (hc k hk).1; omega, (hold _ (hc k hk).1 (hcn k hk)).trans (hc k hk).2⟩
  by_cases hbn : b = n
  ·subst hbn
   have e : at' < i := by
    apply Classical.byContradiction
    intro hge
    have h3 : (bq Q b).ins.getD at' default ∈ (bq Q b).ins.drop i := by
     have : (bq Q b).ins.getD at' default = ((bq Q b).ins.drop i).getD (at' - i) default := by rw [getD_drop]; congr 1; omega
     rw [this]
     exact getD_in (by rw [List.length_drop]; omega)
    rw [hl, hI] at h3
    have := handL_op h3
    have := (smallC_9 hsm).1
    omega
   rw [rm_yes ⟨rfl, e⟩]
   refine Mt.call x r _ _ g c on (by dsimp only; omega) ?_ hs ?_ ?_ ?_ hc' hR (by omega) ih
   ·rw [hon]; dsimp only; rw [List.length_drop]; omega
   ·rw [hon]; dsimp only; rw [List.drop_drop, ← hl]; congr 1; omega
   ·rw [hon]; exact hf
   ·rw [hon]; exact ht
  ·rw [rm_no (fun q => hbn q.1)]
   have e2 := hold b hb hbn
   exact Mt.call x r _ _ g c on (by dsimp only; omega) (by rw [e2]; exact hi) hs (by rw [e2]; exact hl) (by rw [e2]; exact hf) (by rw [e2]; exact ht) hc' hR (by omega) ih
/-- a procedure stands for an old one -/
structure MtP (m : Md) (P Q : Pr) : Prop where
 regs : P.regs ≤ Q.regs
 objs : Q.objs = P.objs
 params : Q.params = P.params
 void : Q.void = P.void
 len : P.blks.length ≤ Q.blks.length
 mt : ∀ b, b < P.blks.length → Mt m P.regs Q (bq P b) (bq P b).ins b 0
theorem mt_drop (m : Md) (P : Pr) {b : Nat} (hb : b < P.blks.length) : ∀ k i, i + k = (bq P b).ins.length → Mt m P.regs P (bq P b) ((bq P b).ins.drop i) b i
 | 0, i, h => by
  rw [List.drop_eq_nil_of_le (by omega)]
  exact Mt.fin _ _ hb (by omega) rfl rfl rfl rfl
 | k + 1, i, h => by
  rw [drop_cons _ _ (by omega)]
  exact Mt.same _ _ _ _ hb (by omega) rfl (mt_drop m P hb k (i + 1) (by omega))
theorem MtP.refl (m : Md) (P : Pr) : MtP m P P := ⟨Int.le_refl _, rfl, rfl, rfl, Nat.le_refl _, fun b hb => by have := mt_drop m P hb (bq P b).ins.length 0 (by omega); rwa [List.drop_zero] at this⟩
theorem MtP.put {m : Md} {P Q : Pr} (h : MtP m P Q) {n at' : Nat} (hn : n < Q.blks.length) (ha : callAt m (bq Q n) = some at') (h0 : 0 ≤ (pk m ((bq Q n).ins.getD at' default).obj.toNat).regs) : MtP m P (putP m Q n at') := by
 refine ⟨?_, h.objs, h.params, h.void, ?_, fun b hb => ?_⟩
 ·have := h.regs
  show P.regs ≤ Q.regs + (pk m ((bq Q n).ins.getD at' default).obj.toNat).regs
  omega
 ·have := h.len
  unfold putP
  rw [putX_len]
  omega
 ·have := Mt.put hn ha h.regs h0 (h.mt b hb)
  rw [rm_no (fun q => by omega)] at this
  exact this
end Go.Proofs.YtchoiankeohonaaGreatDoor

set_option linter.all false
namespace Go.Proofs.YtchoiankeohonaaGreatDoor

end Go.Proofs.YtchoiankeohonaaGreatDoor

set_option linter.all false
namespace Go.Proofs.YtchoiankeohonaaGreatDoor

end Go.Proofs.YtchoiankeohonaaGreatDoor

set_option linter.all false
namespace Go.Proofs.YtchoiankeohonaaGreatDoor
open Go.ChangeShapes Go.WideShapes Go.ChangeAt Go.RowKit
set_option maxHeartbeats 4000000
set_option maxRecDepth 100000
set_option linter.unusedVariables false

/-! what can be read stays, told by block and place -/
/-- an instruction by value, its row of arguments whatever it is -/
def aggI (i : In) (va : Value) : Value := .agg #[.int .i64 i.op, .int .i64 i.d, .int .i64 i.a, .int .i64 i.b, .int .i64 i.fn, .int .i64 i.obj, .int .i64 i.off, .int .i64 i.size, .int .u32 i.num, va, .bool i.log]
end Go.Proofs.YtchoiankeohonaaGreatDoor

set_option linter.all false
namespace Go.Proofs.YtchoiankeohonaaGreatDoor
open Go.ChangeShapes Go.WideShapes Go.ChangeAt Go.RowKit
set_option maxHeartbeats 4000000
set_option maxRecDepth 100000
set_option linter.unusedVariables false

theorem small1_c (i : In) (va : Value) (w : World) :
  Calls Tryz.prog 33 #[aggI i va] w fun e w' => e = .returned (.bool (i.op == 9)) ∧ Below w.heap.size w w' := by
 unfold aggI
 go_enter Tryz.func33, Tryz.ntmps33
 go_wp2_with fail
 go_ret
 exact ⟨rfl, below_alloc _ _⟩
theorem idx1_c (l : List In) (v : Value) (w : World) (hv : RdIns w v l) (hn : l.length ≤ 1000000) :
  Calls Tryz.prog 36 #[v, .func (.func 33) #[] #[]] w fun e w' => ∃ r : Int, e = .returned (.int .i64 r) ∧ decide (0 ≤ r) = l.any (fun i => i.op == 9) ∧ Below w.heap.size w w' := by
 have hv' := hv
 obtain ⟨a, c, rfl, h1, h2, -⟩ := hv'
 have HC := Lib.hid (RdIns.at hv).2
 have HT : Hid (∀ (y : In) (va : Value) (w : World), Calls Tryz.prog 33 #[aggI y va] w fun e w' => e = .returned (.bool (y.op == 9)) ∧ Below w.heap.size w w') := fun y va w => small1_c y va w
 unfold aggI at HT
 clear hv
 unfold maxLen at h2
 go_enter Tryz.func36, Tryz.ntmps36
 go_wp2_with fail
 go_loopw [8] (fun i wr => ∃ k : Nat, k ≤ l.length ∧ i = .int .i64 (k : Int) ∧ Hid (Below w.heap.size w wr) ∧ Hid (∀ j : Nat, j < k → ((l.getD j default).op == 9) = false)) (fun i _ => l.length - (intOf i).toNat)
 case atStart => exact ⟨0, Nat.zero_le _, rfl, Below.refl _ _, fun j hj => absurd hj (Nat.not_lt_zero j)⟩
 case round =>
  obtain ⟨k, hk, rfl, hB, hN⟩ := hrel
  by_cases hlt : k < l.length
  ·obtain ⟨b, o, va, rfl, -, -, d0, d1, d2, d3, d4, d5, d6, d7, d8, d9, d10⟩ := HC.out k hlt
   have hE : Ext w wr := Ext.below hB.out
   replace d0 := hE _ _ d0
   replace d1 := hE _ _ d1
   replace d2 := hE _ _ d2
   replace d3 := hE _ _ d3
   replace d4 := hE _ _ d4
   replace d5 := hE _ _ d5
   replace d6 := hE _ _ d6
   replace d7 := hE _ _ d7
   replace d8 := hE _ _ d8
   replace d9 := hE _ _ d9
   replace d10 := hE _ _ d10
   clear hE
   have HA : Hid (((l.getD k default).op == 9) = true → l.any (fun i => i.op == 9) = true) := fun h => List.any_eq_true.2 ⟨_, getD_in hlt, h⟩
   have HNX : Hid (((l.getD k default).op == 9) = false → ∀ j : Nat, j < k + 1 → ((l.getD j default).op == 9) = false) := fun h j hj => by
    by_cases e : j = k
    ·subst e; exact h
    ·exact hN.out j (by omega)
   generalize l.getD k default = y at *
   have HTk := Lib.hid (fun w' => HT.out y va w')
   cases hh : (y.op == 9)
   ·rw [hh] at HTk
    have HNX := Lib.hid (HNX.out hh)
    clear hh
    go_wp2_with (go_at_call 33; refine (HTk.out _).mono ?_; rintro e w3 ⟨rfl, hb3⟩; have hB := Lib.hid (hB.out.trans (hb3.mono hB.out.size)); clear hb3)
    go_roundw
    case rel => exact ⟨k + 1, by omega, by go_num, hB, HNX⟩
    case measure => simp [intOf]; omega
   ·rw [hh] at HTk
    have HA := Lib.hid (HA.out hh)
    clear hh
    go_wp2_with (go_at_call 33; refine (HTk.out _).mono ?_; rintro e w3 ⟨rfl, hb3⟩; have hB := Lib.hid (hB.out.trans (hb3.mono hB.out.size)); clear hb3)
    go_ret
    exact ⟨_, rfl, by rw [HA.out]; simp, hB.out⟩
  ·obtain rfl : k = l.length := by omega
   have HA : Hid (l.any (fun i => i.op == 9) = false) := by
    show _ = _
    rw [List.any_eq_false]
    intro x hx
    obtain ⟨j, hj, rfl⟩ := List.getElem_of_mem hx
    have := hN.out j hj
    simpa [List.getD, hj] using this
   go_wp2_with fail
   go_ret
   exact ⟨_, rfl, by rw [HA.out]; rfl, hB.out⟩
theorem has1_c (l : List In) (v : Value) (w : World) (hv : RdIns w v l) (hn : l.length ≤ 1000000) :
  Calls Tryz.prog 32 #[v, .func (.func 33) #[] #[]] w fun e w' => e = .returned (.bool (l.any fun i => i.op == 9)) ∧ Below w.heap.size w w' := by
 have HX := Lib.hid (idx1_c l v w hv hn)
 obtain ⟨a, c, rfl, -⟩ := hv
 go_enter Tryz.func32, Tryz.ntmps32
 go_wp2_with (go_at_call 36; refine HX.out.mono ?_; rintro e w1 ⟨r, rfl, hr, hb⟩; have HR := Lib.hid hr; have HB := Lib.hid hb; clear hr hb)
 go_ret
 exact ⟨ret_b HR.out, HB.out⟩
theorem small_is (p : Pr) : smallP p = (decide (p.objs.length = 0) && (decide (p.blks.length + insN p ≤ 24) && !(p.blks.any fun b => b.ins.any fun i => i.op == 9))) := by
 unfold smallP
 congr 2
 rw [List.not_any_eq_all_not]
 congr 1
 funext b
 rw [List.not_any_eq_all_not]
 rfl
theorem small_c (p : Pr) (V : Value) (w : World) (hP : PrV w V p) (hs : SzP p) :
  Calls Tryz.prog 14 #[V] w fun e w' => e = .returned (.bool (smallP p)) ∧ Below w.heap.size w w' := by
 have HSP := Lib.hid (small_is p)
 have hPe := hP
 obtain ⟨nm, vo, vb, rfl, hvo, hvb⟩ := hP
 have HZ : Hid (∀ w', Ext w w' → Calls Tryz.prog 31 #[.agg #[.string nm, .bool p.void, .int .i64 p.params, .int .i64 p.regs, vo, vb]] w' fun e w'' => e = .returned (.int .i64 ((p.blks.length : Int) + (insN p : Int))) ∧ Below w'.heap.size w' w'') := fun w' he => size_c p _ w' (hPe.ext he) hs
 clear hPe
 obtain ⟨ao, co, rfl, ho1, ho2, -⟩ := hvo
 have hvb' := hvb
 obtain ⟨ab, cb, rfl, h1, h2, -⟩ := hvb'
 have HBk := Lib.hid (RdBks.at hvb).2
 have HHI : Hid (∀ (b : Bk) (vi : Value) w', b ∈ p.blks → RdIns w' vi b.ins → Calls Tryz.prog 32 #[vi, .func (.func 33) #[] #[]] w' fun e w'' => e = .returned (.bool (b.ins.any fun i => i.op == 9)) ∧ Below w'.heap.size w' w'') := fun b vi w' hb hr => has1_c b.ins vi w' hr (by have := hs.ins b hb; omega)
 have hbl := hs.blks
 clear hvb hs
 unfold maxLen at h2 ho2
 obtain ⟨W0, hW0⟩ : ∃ W0, W0 = w.alloc (.cells #[.string nm, .bool p.void, .int .i64 p.params, .int .i64 p.regs, .slice ao p.objs.length co, .slice ab p.blks.length cb] 35) := ⟨_, rfl⟩
 have B0 : Hid (Below w.heap.size w W0) := by rw [hW0]; exact below_alloc w _
 have H0 := Lib.hid (heap_of_alloc w _ _ hW0)
 have HW0 := Lib.hid hW0
 clear hW0
 go_enter Tryz.func14, Tryz.ntmps14
 by_cases ho : 0 < p.objs.length
 ·have g1 : decide (0 < (p.objs.length : Int)) = true := decide_eq_true (by omega)
  have HF : Hid (smallP p = false) := by show _ = _; rw [HSP.out, decide_eq_false (by omega)]; rfl
  obtain ⟨x0, x1, x2, x3, x4, x5, l0⟩ := cl6 H0.out
  go_wp2_with fail
  rw [← HW0.out]
  go_wp2_with fail
  go_ret
  exact ⟨ret_b HF.out.symm, B0.out⟩
 ·have g1 : decide (0 < (p.objs.length : Int)) = false := decide_eq_false (by omega)
  have ho0 : p.objs.length = 0 := by omega
  have HO := Lib.hid ho0
  clear ho0
  obtain ⟨x0, x1, x2, x3, x4, x5, l0⟩ := cl6 H0.out
  by_cases hz : 24 < p.blks.length + insN p
  ·have g2 : decide (24 < (p.blks.length : Int) + (insN p : Int)) = true := decide_eq_true (by omega)
   have HF : Hid (smallP p = false) := by show _ = _; rw [HSP.out, decide_eq_false (p := p.blks.length + insN p ≤ 24) (by omega)]; simp
   clear hz
   go_wp2_with fail
   rw [← HW0.out]
   go_wp2_with (go_at_call 31; refine (HZ.out _ (Ext.below B0.out)).mono ?_; rintro e w2 ⟨rfl, hb2⟩; have B2 := Lib.hid (B0.out.trans (hb2.mono B0.out.size)); clear hb2)
   go_ret
   exact ⟨ret_b HF.out.symm, B2.out⟩
  ·have g2 : decide (24 < (p.blks.length : Int) + (insN p : Int)) = false := decide_eq_false (by omega)
   have HF : Hid (smallP p = !(p.blks.any fun b => b.ins.any fun i => i.op == 9)) := by show _ = _; rw [HSP.out, decide_eq_true HO.out, decide_eq_true (p := p.blks.length + insN p ≤ 24) (by omega)]; rfl
   clear hz
   go_wp2_with fail
   rw [← HW0.out]
   refine (HZ.out _ (Ext.below B0.out)).mono ?_
   rintro e w2 ⟨rfl, hb2⟩
   have B2 := Lib.hid (B0.out.trans (hb2.mono B0.out.size))
   have H0 := Lib.hid ((hb2.block _ l0).trans H0.out)
   clear hb2 l0 x0 x1 x2 x3 x4 x5 HZ HW0 B0
   obtain ⟨x0, x1, x2, x3, x4, x5, l0⟩ := cl6 H0.out
   go_wp2_with fail
   go_loopw [17] (fun i wr => ∃ k : Nat, k ≤ p.blks.length ∧ i = .int .i64 (k : Int) ∧ Hid (Below w.heap.size w wr) ∧ Hid (∀ j : Nat, j < k → ((p.blks.getD j default).ins.any fun i => i.op == 9) = false)) (fun i _ => p.blks.length - (intOf i).toNat)
   case atStart => exact ⟨0, Nat.zero_le _, rfl, B2, fun j hj => absurd hj (Nat.not_lt_zero j)⟩
   case round =>
    clear B2 x0 x1 x2 x3 x4 x5 l0 H0
    obtain ⟨k, hk, rfl, hB, hN⟩ := hrel
    by_cases hlt : k < p.blks.length
    ·obtain ⟨b, o, vi, rfl, hvi, c0, c1, c2, c3, c4⟩ := HBk.out k hlt
     have hE : Ext w wr := Ext.below hB.out
     replace c0 := hE _ _ c0
     replace c1 := hE _ _ c1
     replace c2 := hE _ _ c2
     replace c3 := hE _ _ c3
     replace c4 := hE _ _ c4
     have HVI := Lib.hid (hvi.ext hE)
     have HHk := Lib.hid (fun w' (he : Ext w w') => HHI.out _ vi w' (getD_in hlt) (hvi.ext he))
     obtain ⟨ai, ci, rfl, -⟩ := hvi
     have HA : Hid (((p.blks.getD k default).ins.any fun i => i.op == 9) = true → (p.blks.any fun b => b.ins.any fun i => i.op == 9) = true) := fun h => List.any_eq_true.2 ⟨_, getD_in hlt, h⟩
     have HNX : Hid (((p.blks.getD k default).ins.any fun i => i.op == 9) = false → ∀ j : Nat, j < k + 1 → ((p.blks.getD j default).ins.any fun i => i.op == 9) = false) := fun h j hj => by
      by_cases e : j = k
      ·subst e; exact h
      ·exact hN.out j (by omega)
     clear hE
     generalize p.blks.getD k default = K at *
     have hz := hB.out.size
     have B1 : Hid (∀ o, Below w.heap.size w (wr.alloc o)) := fun o => hB.out.alloc hz o
     cases hh : (K.ins.any fun i => i.op == 9)
     ·rw [hh] at HHk
      have HNX := Lib.hid (HNX.out hh)
      clear hh
      go_wp2_with (go_at_call 32; refine (HHk.out _ (Ext.below (B1.out _))).mono ?_; rintro e w3 ⟨rfl, hb3⟩; have B3 := Lib.hid ((B1.out _).trans (hb3.mono (B1.out _).size)); clear hb3)
      go_roundw
      case rel => exact ⟨k + 1, by omega, by go_num, B3, HNX⟩
      case measure => simp [intOf]; omega
     ·rw [hh] at HHk
      have HA := Lib.hid (HA.out hh)
      clear hh
      go_wp2_with (go_at_call 32; refine (HHk.out _ (Ext.below (B1.out _))).mono ?_; rintro e w3 ⟨rfl, hb3⟩; have B3 := Lib.hid ((B1.out _).trans (hb3.mono (B1.out _).size)); clear hb3)
      go_ret
      exact ⟨ret_b (by rw [HF.out, HA.out]; rfl), B3.out⟩
    ·obtain rfl : k = p.blks.length := by omega
     have HA : Hid ((p.blks.any fun b => b.ins.any fun i => i.op == 9) = false) := by
      show _ = _
      rw [List.any_eq_false]
      intro x hx
      obtain ⟨j, hj, rfl⟩ := List.getElem_of_mem hx
      have := hN.out j hj
      simpa [List.getD, hj] using this
     go_wp2_with fail
     go_ret
     exact ⟨ret_b (by rw [HF.out, HA.out]; rfl), hB.out⟩
end Go.Proofs.YtchoiankeohonaaGreatDoor
