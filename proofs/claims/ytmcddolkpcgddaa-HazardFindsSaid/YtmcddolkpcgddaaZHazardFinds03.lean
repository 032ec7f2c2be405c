/-
 Regions that draw their order: a planned order, in which operations that only reckon or look stand as early as may be and all others follow one another, serves every order that may be drawn.
-/
import Derived.Test.YtmcddolkpcgddaaZHazardFindsQ
import Derived.BigQuiet
import Derived.Below
import Derived.WalkKit
set_option linter.all false
namespace Go.Proofs.Ytmcddolkpcgddaa
open Go Go.RowKit
def qjn:Exit→Act→World→Prop:=fun _ _ _=>False
def qes (K:Act→World→Prop):Exit→Act→World→Prop
 | .normal,a,w=>K a w
 | _,_,_=>False
def qgy:Oper→Bool
 | ⟨_,.move _,_,_,_,_⟩|⟨_,.assign _,_,_,_,_⟩|⟨_,.pick _ _ _,_,_,_,_⟩|⟨_,.load _ _,_,_,_,_⟩|⟨_,.binOp ..,_,_,_,_⟩|⟨_,.unOp ..,_,_,_,_⟩|⟨_,.convert ..,_,_,_,_⟩
 | ⟨_,.fieldAddr ..,_,_,_,_⟩|⟨_,.field ..,_,_,_,_⟩|⟨_,.indexAddr ..,_,_,_,_⟩|⟨_,.index ..,_,_,_,_⟩|⟨_,.extract ..,_,_,_,_⟩|⟨_,.build ..,_,_,_,_⟩
 | ⟨_,.slice ..,_,_,_,_⟩|⟨_,.makeInterface ..,_,_,_,_⟩|⟨_,.nilCheck ..,_,_,_,_⟩=>true
 | _=>false
theorem qgp {P:Program} {s:Sem Value} {w:World} {n:Next} {w':World} (h:(do pure (Next.value (←s)):Sem Next).run P w=.ok n w'):∃ v,n=.value v:=by
 simp only [Sem.run_bind] at h
 cases hs:s.run P w with
 | ok v w1=>
  rw [hs] at h
  simp only [Result.andThen_ok,Sem.run_pure,Result.ok.injEq] at h
  exact ⟨v,h.1.symm⟩
 | halt x w1=>rw [hs] at h;simp [Result.andThen] at h
def q2r (s:Sem Next):Prop:=∀ P w n w',s.run P w=.ok n w'→∃ v,n=.value v
theorem ql4 (v:Value):q2r (pure (.value v)):=fun P w n w' h=>by
 simp only [Sem.run_pure,Result.ok.injEq] at h;exact ⟨_,h.1.symm⟩
theorem qhp {α:Type} {s:Sem α} {f:α→Sem Next} (hf:∀ a,q2r (f a)):q2r (s >>=f):=fun P w n w' h=>by
 simp only [Sem.run_bind] at h
 cases hs:s.run P w with
 | ok a w1=>rw [hs] at h;exact hf a P w1 n w' h
 | halt x w1=>rw [hs] at h;simp [Result.andThen] at h
theorem qdb {P:Program} {o:Oper} {ρ:Operand→Value} {w:World} {n:Next} {w':World} (h:qgy o=true) (hr:(execOp ρ o).run P w=.ok n w'):∃ v,n=.value v:=by
 obtain ⟨dst,op,type,pos,after,guard⟩:=o
 cases op <;> simp only [qgy,Bool.false_eq_true] at h <;> simp only [execOp] at hr
 case move=>simp only [Sem.run_pure,Result.ok.injEq] at hr;exact ⟨_,hr.1.symm⟩
 case assign=>simp only [Sem.run_pure,Result.ok.injEq] at hr;exact ⟨_,hr.1.symm⟩
 case pick c a b=>
  simp only [Sem.run_bind] at hr
  cases hs:(asBool (ρ c)).run P w with
  | ok v w1=>
   rw [hs] at hr
   simp only [Result.andThen_ok] at hr
   split at hr <;> simp only [Sem.run_pure,Result.ok.injEq] at hr <;> exact ⟨_,hr.1.symm⟩
  | halt x w1=>rw [hs] at hr;simp [Result.andThen] at hr
 case nilCheck x=>
  split at hr
  all_goals first
   | (simp only [Sem.run_pure,Result.ok.injEq] at hr;exact ⟨_,hr.1.symm⟩)
   | (simp [runtimePanic,go_sem] at hr;done)
   | skip
  split at hr
  all_goals first
   | (simp only [Sem.run_pure,Result.ok.injEq] at hr;exact ⟨_,hr.1.symm⟩)
   | (simp [runtimePanic,go_sem] at hr;done)
   | skip
  refine qhp (fun _=>qhp fun b=>?_) _ _ _ _ hr
  split
  ·exact qhp fun _=>ql4 _
  ·exact ql4 _
 all_goals exact qgp hr
def qcl (S:Nat→Prop) (w w':World):Prop:=∀ b o,S b→w'.cell? ⟨b,o,none⟩=w.cell? ⟨b,o,none⟩
theorem qcl.refl (S:Nat→Prop) (w:World):qcl S w w:=fun _ _ _=>rfl
theorem qcl.trans {S:Nat→Prop} {a b c:World} (h:qcl S a b) (k:qcl S b c):qcl S a c:=fun x o hx=>(k x o hx).trans (h x o hx)
open Classical in
noncomputable def kp (S:Nat→Prop) (w x:World):World:=if qcl S w x then x else w
theorem qzi (S:Nat→Prop) (w x:World):qcl S w (kp S w x):=by
 unfold kp;split
 ·assumption
 ·exact qcl.refl _ _
theorem qmh {S:Nat→Prop} {w x:World} (h:qcl S w x):∃ y,x=kp S w y:=⟨x,by unfold kp;rw [if_pos h]⟩
theorem qu7 {S:Nat→Prop} {w x:World} {b o:Nat} (h:S b):(kp S w x).cell? ⟨b,o,none⟩=w.cell? ⟨b,o,none⟩:=qzi S w x b o h
attribute [go_sem] qu7
section
variable {P:Program} {ops:Array Oper} {Q:Act→World→Prop} {S:Nat→Prop}
def qof (ops:Array Oper) (j:Nat):Bool :=
 (List.range ops.size).all fun i=>i ==j || (List.range ops.size).any fun k=>decide (i<k) && ((ops[k]?).map fun o=>o.after.toList.any fun e=>Region.binds .any e && e.on ==i).getD false
def qee (ops:Array Oper) (listed:Array Bool):Bool :=
 (List.range ops.size).all fun k=> !(listed.getD k true) || ((ops[k]?).map fun o=>o.after.all fun e=> !Region.binds .any e || listed.getD e.on false).getD true
def qfo (ops:Array Oper) (listed:Array Bool):Prop:=∀ k o,ops[k]?=some o→listed.getD k true=true→∀ e∈o.after,Region.binds .any e=true→listed.getD e.on false=true
theorem qd1 {ops:Array Oper} {listed:Array Bool} (h:qee ops listed=true):qfo ops listed:=by
 intro k o hk hl e he hb
 unfold qee at h
 rw [List.all_eq_true] at h
 have h1:=h k (List.mem_range.2 (qkp hk).1)
 rw [hl,hk] at h1
 simp only [Bool.not_true,Bool.false_or,Option.map_some,Option.getD_some,Array.all_eq_true_iff_forall_mem] at h1
 have h2:=h1 e he
 rw [hb] at h2
 simpa using h2
theorem qec {ops:Array Oper} {listed:Array Bool} {j:Nat} (h:qfo ops listed) (hj:j∈Region.ready .any ops listed):qfo ops (listed.setIfInBounds j true):=by
 intro k o hk hl e he hb
 obtain ⟨h0,oj,hoj,hall⟩:=mem_ready.1 hj
 by_cases e':k=j
 ·subst e'
  rw [hk] at hoj
  cases hoj
  exact getD_set_true (hall e he hb)
 ·rw [getD_set_ne true (fun h=>e' h.symm)] at hl
  exact getD_set_true (h k o hk hl e he hb)
theorem qer {l:Array Bool} {k:Nat} (h1:l.getD k false=true) (h2:l.getD k true=false):False:=by
 rcases Nat.lt_or_ge k l.size with h|h
 ·simp [h] at h1 h2;rw [h1] at h2;cases h2
 ·simp [Array.getElem?_eq_none h] at h1
theorem qhx {ops:Array Oper} {listed:Array Bool} {j:Nat} (hs:qof ops j=true) (hc:qfo ops listed) (hj:j∈Region.ready .any ops listed):∀ n i,ops.size-i=n→i<ops.size→i≠j→listed.getD i true=false→False:=by
 intro n
 induction n using Nat.strongRecOn with
 | ind n ih=>
  intro i hn hi hne hl
  have h1:=hs
  unfold qof at h1
  rw [List.all_eq_true] at h1
  have h2:=h1 i (List.mem_range.2 hi)
  have hne':(i ==j)=false:=by simpa using hne
  rw [hne',Bool.false_or,List.any_eq_true] at h2
  obtain ⟨k,hk,h3⟩:=h2
  rw [Bool.and_eq_true] at h3
  obtain ⟨hik,h4⟩:=h3
  have hik:i<k:=of_decide_eq_true hik
  have hks:=List.mem_range.1 hk
  cases hok:ops[k]? with
  | none=>rw [hok] at h4;simp at h4
  | some o=>
   rw [hok] at h4
   simp only [Option.map_some,Option.getD_some,List.any_eq_true,Array.mem_toList_iff] at h4
   obtain ⟨e,he,h5⟩:=h4
   rw [Bool.and_eq_true] at h5
   have h6:e.on=i:=by simpa using h5.2
   by_cases hkj:k=j
   ·subst hkj
    obtain ⟨h0,oj,hoj,hall⟩:=mem_ready.1 hj
    rw [hok] at hoj
    cases hoj
    have:=hall e he h5.1
    rw [h6] at this
    exact qer this hl
   ·cases hlk:listed.getD k true
    ·exact ih (ops.size-k) (by omega) k rfl hks hkj hlk
    ·have:=hc k o hok hlk e he h5.1
     rw [h6] at this
     exact qer this hl
def eOp (nd:Bool) (S:Nat→Prop) (P:Program) (ops:Array Oper) (i:Nat) (K:Act→World→Prop) (a:Act) (w:World):Prop :=
 match ops[i]? with
 | none=>K a w
 | some o=>if Region.wanted o (yielded ops a.tmps) then o.wp P a w (fun a' w'=>(nd=true→qcl S w w')∧K a' w') qjn else K (a.put o.dst undef) w
def wpE (S:Nat→Prop) (P:Program) (ops:Array Oper) (Q:Act→World→Prop):Nat→Array Bool→Act→World→Prop
 | 0,listed,a,w=>Region.ready .any ops listed=[]∧Q a w
 | f+1,listed,a,w=>(Region.ready .any ops listed=[]→Q a w)∧∀ i∈Region.ready .any ops listed,eOp (!(qof ops i)) S P ops i (wpE S P ops Q f (listed.setIfInBounds i true)) a w
theorem qcg {o:Oper} {a:Act} {w:World} {K K':Act→World→Prop} {Q':Exit→Act→World→Prop} (h:∀ a w,K a w→K' a w) (hh:o.wp P a w K qjn):o.wp P a w K' Q':=by
 unfold Oper.wp at *
 generalize (execOp a.eval o).run P w=r at *
 cases r with
 | ok n w'=>
  cases n <;> simp only [Oper.upon] at hh ⊢
  case value=>exact h _ _ hh
  case skip=>exact h _ _ hh
  case defer=>exact h _ _ hh
  case enter f args=>
   refine Calls.mono hh fun e w'' he=>?_
   cases e with
   | returned v=>exact h _ _ he
   | panicked c=>exact he.elim
   | outgrown=>obtain ⟨_,_,hf⟩:=he;exact hf.elim
  case row row args=>exact Rows.mono hh fun _ _ he=>h _ _ he
 | halt x w'=>
  cases x <;> simp only [Oper.upon] at hh ⊢
  case panic=>exact hh.elim
theorem qov {nd:Bool} {i:Nat} {a:Act} {w:World} {K K':Act→World→Prop} (h:∀ a w,K a w→K' a w) (hh:eOp nd S P ops i K a w):eOp nd S P ops i K' a w:=by
 unfold eOp at *
 split
 ·exact h _ _ (by simpa [*] using hh)
 ·rename_i o ho
  simp only [ho] at hh
  split
  ·rename_i hw;simp only [hw,if_true] at hh;exact qcg (fun a w h'=>⟨h'.1,h _ _ h'.2⟩) hh
  ·rename_i hw;simp only [hw] at hh;exact h _ _ hh
theorem qe4 {Q':Exit→Act→World→Prop} (hQ:∀ a w,Q a w→Q' .normal a w):∀ (f:Nat) (listed:Array Bool) (a:Act) (w:World),wpE S P ops Q f listed a w→wpAny P .any ops Q' f listed a w
 | 0,_,_,_,h=>⟨h.1,hQ _ _ h.2⟩
 | f+1,listed,a,w,h=>⟨fun h0=>hQ _ _ (h.1 h0),fun i hi=>by
   have h1:=h.2 i hi
   unfold eOp at h1
   unfold wpOp
   split
   ·rename_i ho;simp only [ho] at h1;exact qe4 hQ f _ _ _ h1
   ·rename_i o ho
    simp only [ho] at h1
    split
    ·rename_i hw
     simp only [hw,if_true] at h1
     exact .inl (qcg (fun a' w' h2=>qe4 hQ f _ _ _ h2.2) h1)
    ·rename_i hw;simp only [hw] at h1;exact qe4 hQ f _ _ _ h1⟩
def qb6 (S:Nat→Prop) (P:Program) (ops:Array Oper) (w:World) (o:Oper) (v:Value) (a:Act):Prop :=
 (Region.wanted o (yielded ops a.tmps)=true∧∀ w',qcl S w w'→(execOp a.eval o).run P w'=.ok (.value v) w')∨
 (Region.wanted o (yielded ops a.tmps)=false∧v=undef)
theorem qb6.of_same {o:Oper} {v:Value} {a a':Act} {w w1:World} (hy:qb6 S P ops w o v a) (hb:qcl S w w1) (he:execOp a'.eval o=execOp a.eval o)
  (hw:Region.wanted o (yielded ops a'.tmps)=Region.wanted o (yielded ops a.tmps)):qb6 S P ops w1 o v a':=by
 unfold qb6 at *
 rw [he,hw]
 rcases hy with ⟨h1,h2⟩|h
 ·exact .inl ⟨h1,fun w' h'=>h2 w' (hb.trans h')⟩
 ·exact .inr h
theorem qb6.eOp {nd:Bool} {i:Nat} {o:Oper} {v:Value} {a:Act} {w:World} (hi:ops[i]?=some o) (hy:qb6 S P ops w o v a) {K:Act→World→Prop} (h:K (a.put o.dst v) w):eOp nd S P ops i K a w:=by
 unfold Proofs.Ytmcddolkpcgddaa.eOp
 simp only [hi]
 rcases hy with ⟨hw,hv⟩|⟨hw,rfl⟩
 ·simp only [hw,if_true,Oper.wp,hv w (qcl.refl _ _),Oper.upon];exact ⟨fun _=>qcl.refl _ _,h⟩
 ·simp only [hw,Bool.false_eq_true,if_false];exact h
theorem qq3 {j:Nat} {oi oj:Oper} {v:Value} (hj:ops[j]?=some oj) (hap:oi.apart ops oj=true)
  (hsi:∀ cs b,oi.op≠.select cs b) (hsj:∀ cs b,oj.op≠.select cs b) {K:Act→World→Prop} {a:Act} {w:World}
  (hy:qb6 S P ops w oi v a) (h:eOp true S P ops j K (a.put oi.dst v) w) :
  eOp true S P ops j (fun a' w'=>qb6 S P ops w' oi v a'∧K (a'.put oi.dst v) w') a w:=by
 obtain ⟨h1,h2,h3⟩:=Oper.apart_spec hap
 have keep:∀ (a:Act) (w w1:World),qb6 S P ops w oi v a→qcl S w w1→∀ u,qb6 S P ops w1 oi v (a.put oj.dst u):=fun a w w1 hy hb u=>
  hy.of_same hb (execOp_put oi hsi a oj.dst u h3) (wanted_put oi a oj.dst u h3)
 have keepD:∀ d,qb6 S P ops w oi v { a with defers:=d::a.defers }:=fun d=>hy.of_same (qcl.refl _ _) rfl rfl
 unfold eOp at *
 simp only [hj] at *
 rw [wanted_put oj a oi.dst v h1] at h
 split
 ·rename_i hw
  simp only [hw,if_true] at h
  unfold Oper.wp at *
  rw [execOp_put oj hsj a oi.dst v h1] at h
  generalize (execOp a.eval oj).run P w=r at *
  cases r with
  | ok n w'=>
   cases n <;> simp only [Oper.upon] at h ⊢
   case value u=>exact ⟨fun _=>h.1 trivial,keep a _ _ hy (h.1 trivial) u,by rw [←Act.put_comm a v u h2];exact h.2⟩
   case skip=>exact ⟨fun _=>h.1 trivial,keep a _ _ hy (h.1 trivial) _,by rw [←Act.put_comm a v undef h2];exact h.2⟩
   case defer d=>
    refine ⟨fun _=>h.1 trivial,keep _ _ _ (keepD d) (h.1 trivial) _,?_⟩
    rw [←Act.put_comm _ v undef h2,←Act.put_defers]
    exact h.2
   case enter f args=>
    refine Calls.mono h fun e w'' he=>?_
    cases e with
    | returned u=>exact ⟨fun _=>he.1 trivial,keep a _ _ hy (he.1 trivial) u,by rw [←Act.put_comm a v u h2];exact he.2⟩
    | panicked c=>exact he
    | outgrown=>exact he
   case row row args=>exact Rows.mono h fun u w'' he=>⟨fun _=>he.1 trivial,keep a _ _ hy (he.1 trivial) u,by rw [←Act.put_comm a v u h2];exact he.2⟩
  | halt x w'=>
   cases x <;> simp only [Oper.upon] at h ⊢
   case panic u=>exact h
 ·rename_i hw
  simp only [hw] at h
  exact ⟨keep a _ _ hy (qcl.refl _ _) _,by rw [←Act.put_comm a v undef h2];exact h⟩
theorem qlb {i:Nat} {oi:Oper} {v:Value} (hi:ops[i]?=some oi) (hsel:∀ (j:Nat) (o:Oper) cs b,ops[j]?=some o→o.op≠.select cs b) :
  ∀ (fuel:Nat) (listed:Array Bool) (a:Act) (w:World),
   (∀ j oj,ops[j]?=some oj→j≠i→listed.getD j true=false→(∀ e∈oj.after,Region.binds .any e=true→e.on≠i)→oi.apart ops oj=true)→
   qfo ops listed→i∈Region.ready .any ops listed→qb6 S P ops w oi v a→
   wpE S P ops Q fuel (listed.setIfInBounds i true) (a.put oi.dst v) w→wpE S P ops Q (fuel+1) listed a w:=by
 intro fuel
 induction fuel with
 | zero=>
  intro listed a w _ hcl hr hy H
  refine ⟨fun h=>(by rw [h] at hr;cases hr),fun j hj=>?_⟩
  by_cases hji:j=i
  ·subst hji;exact hy.eOp hi H
  ·have:=ready_mono hj hji
   rw [H.1] at this
   cases this
 | succ fuel ih=>
  intro listed a w hfree hcl hr hy H
  refine ⟨fun h=>(by rw [h] at hr;cases hr),fun j hj=>?_⟩
  by_cases hji:j=i
  ·subst hji;exact hy.eOp hi H
  ·have h1:=H.2 j (ready_mono hj hji)
   have hns:qof ops j=false:=by
    cases hs:qof ops j
    ·rfl
    ·exact (qhx hs hcl hj _ i rfl (qkp hi).1 (Ne.symm hji) (mem_ready.1 hr).1).elim
   rw [hns] at h1 ⊢
   obtain ⟨hjun,oj,hoj,hall⟩:=mem_ready.1 hj
   have hnot:∀ e∈oj.after,Region.binds .any e=true→e.on≠i:=fun e he hb heq=>by
    have h1:=hall e he hb
    have h0:=(mem_ready.1 hr).1
    rw [heq] at h1
    rcases Nat.lt_or_ge i listed.size with h'|h'
    ·simp [h'] at h0 h1;rw [h0] at h1;cases h1
    ·simp [Array.getElem?_eq_none h'] at h1
   have h2:=qq3 hoj (hfree j oj hoj hji hjun hnot) (fun cs b=>hsel i oi cs b hi) (fun cs b=>hsel j oj cs b hoj) hy h1
   have hfree':∀ k ok,ops[k]?=some ok→k≠i→(listed.setIfInBounds j true).getD k true=false→
     (∀ e∈ok.after,Region.binds .any e=true→e.on≠i)→oi.apart ops ok=true:=fun k ok hk hki hun hno=>by
    refine hfree k ok hk hki ?_ hno
    by_cases hjk:j=k
    ·subst hjk;exact hjun
    ·rw [getD_set_ne true hjk] at hun;exact hun
   refine qov (fun a' w' h3=>ih (listed.setIfInBounds j true) a' w' hfree' (qec hcl hj) (ready_mono hr (Ne.symm hji)) h3.1 ?_) h2
   rw [Array.setIfInBounds_comm _ _ hji]
   exact h3.2
/-! a region walked as a game:what only looks first;then each of those that may come -/
theorem qax {f:Nat} {listed:Array Bool} {a:Act} {w:World} (i:Nat) (o:Oper) (hio:ops[i]?=some o)
  (hc:(qee ops listed && (Region.noSelect ops && (Region.ready .any ops listed).contains i && Region.free .any ops listed i && qgy o))=true)
  (h:wpQuiet P ops (fun w'=>∃ x,w'=kp S w x) (fun a'=>wpE S P ops Q f (listed.setIfInBounds i true) a' w) [o] a):wpE S P ops Q (f+1) listed a w:=by
 simp only [Bool.and_eq_true] at hc
 obtain ⟨hcl,⟨⟨hs,hr⟩,hf⟩,hk⟩:=hc
 simp only [wpQuiet] at h
 have hy:∃ v,qb6 S P ops w o v a∧wpE S P ops Q f (listed.setIfInBounds i true) (a.put o.dst v) w:=by
  split at h
  ·rename_i hw
   obtain ⟨v,hv,hn⟩:=h
   refine ⟨v,.inl ⟨hw,fun w' hb=>?_⟩,hn⟩
   have h3:=hv w' (qmh hb)
   unfold Oper.quietAt at h3
   generalize hrr:(execOp a.eval o).run P w'=r at h3
   cases r with
   | ok n w1=>
    obtain ⟨u,rfl⟩:=qdb hk hrr
    simp only [Oper.quietUpon] at h3
    obtain ⟨rfl,rfl⟩:=h3
    rfl
   | halt x w1=>simp only [Oper.quietUpon] at h3
  ·rename_i hw
   exact ⟨undef,.inr ⟨by simpa using hw,rfl⟩,h⟩
 obtain ⟨v,hy,hn⟩:=hy
 exact qlb hio (Region.noSelect_spec hs) f listed a w (Region.free_spec hio hf) (qd1 hcl) (by simpa using hr) hy hn
theorem qdn {nd:Bool} {i:Nat} {o:Oper} {K:Act→World→Prop} {a:Act} {w:World} (hio:ops[i]?=some o)
  {K':Act→World→Prop} (hK:∀ a' w',K' a' w'→(nd=true→qcl S w w')∧K a' w')
  (h:wpList P ops (qes K') [o] a w):eOp nd S P ops i K a w:=by
 unfold eOp
 simp only [hio]
 unfold wpList at h
 split
 ·rename_i hw
  simp only [hw,if_true] at h
  rcases h with h|⟨_,_,_,h⟩
  ·unfold Oper.wp at h ⊢
   generalize (execOp a.eval o).run P w=r at *
   cases r with
   | ok n w'=>
    cases n <;> simp only [Oper.upon] at h ⊢
    case value=>exact hK _ _ h
    case skip=>exact hK _ _ h
    case defer=>exact hK _ _ h
    case enter f args=>
     refine Calls.mono h fun e w'' he=>?_
     cases e with
     | returned v=>exact hK _ _ he
     | panicked c=>exact he
     | outgrown=>obtain ⟨_,_,hf⟩:=he;exact (show False from hf).elim
    case row row args=>exact Rows.mono h fun _ _ he=>hK _ _ he
   | halt x w'=>
    cases x <;> simp only [Oper.upon] at h ⊢
    case panic=>exact h
  ·exact (show False from h).elim
 ·rename_i hw
  simp only [hw] at h
  exact (hK _ _ h).2
theorem qag {f:Nat} {listed:Array Bool} {a:Act} {w:World} (i:Nat) (o:Oper) (hio:ops[i]?=some o) (hr:(Region.ready .any ops listed ==[i])=true)
  (h:wpList P ops (qes fun a' w'=>qcl S w w'∧wpE S P ops Q f (listed.setIfInBounds i true) a' w') [o] a w):wpE S P ops Q (f+1) listed a w:=by
 simp only [beq_iff_eq] at hr
 refine ⟨fun h0=>(by rw [hr] at h0;cases h0),fun j hj=>?_⟩
 rw [hr,List.mem_singleton] at hj
 subst hj
 exact qdn hio (fun _ _ h=>⟨fun _=>h.1,h.2⟩) h
theorem qbq {f:Nat} {listed:Array Bool} {a:Act} {w:World} (i:Nat) (o:Oper) (hio:ops[i]?=some o) (hr:(qof ops i && (Region.ready .any ops listed ==[i]))=true)
  (h:wpList P ops (qes fun a' w'=>wpE S P ops Q f (listed.setIfInBounds i true) a' w') [o] a w):wpE S P ops Q (f+1) listed a w:=by
 simp only [Bool.and_eq_true,beq_iff_eq] at hr
 obtain ⟨hs,hr⟩:=hr
 refine ⟨fun h0=>(by rw [hr] at h0;cases h0),fun j hj=>?_⟩
 rw [hr,List.mem_singleton] at hj
 subst hj
 rw [hs]
 exact qdn hio (fun _ _ h=>⟨fun h=>(by cases h),h⟩) h
theorem qi1 {f:Nat} {listed:Array Bool} {a:Act} {w:World} (i j:Nat) (o o':Oper) (hio:ops[i]?=some o) (hjo:ops[j]?=some o') (hr:(Region.ready .any ops listed ==[i,j])=true)
  (h:wpList P ops (qes fun a' w'=>qcl S w w'∧wpE S P ops Q f (listed.setIfInBounds i true) a' w') [o] a w)
  (h':wpList P ops (qes fun a' w'=>qcl S w w'∧wpE S P ops Q f (listed.setIfInBounds j true) a' w') [o'] a w):wpE S P ops Q (f+1) listed a w:=by
 simp only [beq_iff_eq] at hr
 refine ⟨fun h0=>(by rw [hr] at h0;cases h0),fun k hk=>?_⟩
 rw [hr] at hk
 simp only [List.mem_cons,List.not_mem_nil,or_false] at hk
 rcases hk with rfl|rfl
 ·exact qdn hio (fun _ _ h=>⟨fun _=>h.1,h.2⟩) h
 ·exact qdn hjo (fun _ _ h=>⟨fun _=>h.1,h.2⟩) h'
theorem qao {listed:Array Bool} {a:Act} {w:World} (hr:(Region.ready .any ops listed).isEmpty=true) (h:Q a w):∀ f,wpE S P ops Q f listed a w
 | 0=>⟨by simpa using hr,h⟩
 | f+1=>⟨fun _=>h,fun i hi=>by rw [List.isEmpty_iff.1 hr] at hi;cases hi⟩
theorem qae (S:Nat→Prop) {id:Nat} {Q':Exit→Act→World→Prop} {a:Act} {w:World} (hm:P.follows .mixedOrders=true)
  (h:wpE S P ops (fun a' w'=>Q' .normal a' w') ops.size (Array.replicate ops.size false) a { w with drawn:=w.drawn+1 }):(Code.region id ops true).wp P Q' a w :=
 wp_region_any hm (qe4 (fun _ _ h=>h) _ _ _ _ h)
end
end Go.Proofs.Ytmcddolkpcgddaa
