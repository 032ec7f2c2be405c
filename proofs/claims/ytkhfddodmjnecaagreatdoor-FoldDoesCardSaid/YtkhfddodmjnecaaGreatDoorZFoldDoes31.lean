/-
What is known stands as numbers: the procedure, and why it does the same. Plain.
-/
import Derived.Test.YtkhfddodmjnecaaGreatDoorZFoldDoes30
set_option linter.all false
namespace Go.Proofs.YtkhfddodmjnecaaGreatDoor
section
theorem spC1_news (T:Ro) (s:Tb×Bool) (q:Int) (h:(spC1 T s q).2=false):s.2=false:=by
 unfold spC1 at h
 split at h
 ·exact h
 ·split at h
  ·cases h
  ·exact (Bool.or_eq_false_iff.1 h).2
theorem spC_news (T:Ro) (L:List Int) (X:Tb):∀ j k,(spC T (L.take (k+j)) X).2=false→(spC T (L.take k) X).2=false
 | 0,_,h=>h
 | j+1,k,h=>by
  refine spC_news T L X j k ?_
  by_cases e:k+j<L.length
  ·rw [←Nat.add_assoc,spC_take T L X (k+j) e] at h
   exact spC1_news _ _ _ h
  ·rw [List.take_of_length_le (by omega)] at h ⊢
   exact h
theorem still_le {R:Nat} {T:Ro} {L:List Int} {X:Tb} (hL:∀ q∈L,0≤q∧q<(X.length:Int)) (hT:T.length=R) (hX:LenC R X) (h:spC T L X=(X,false)) {q:Int} (hq:q∈L) (h0:q≠0):LeC (X.getD q.toNat none) (some T):=by
 obtain ⟨k,hk,rfl⟩:=List.getElem_of_mem hq
 have pre:∀ j,j≤L.length→spC T (L.take j) X=(X,false):=fun j hj=>by
  rcases (spC_mu R T L X hL hT hX j).1 with e|⟨e, -⟩
  ·exact e
  ·have:=spC_news T L X (L.length-j) j (by rw [show j+(L.length-j)=L.length by omega,List.take_length,h])
   rw [this] at e;cases e
 have h1:=pre (k+1) (by omega)
 rw [spC_take T L X k hk,pre k (by omega)] at h1
 have hg:L.getD k 0=L[k]:=by simp [List.getD,hk]
 rw [hg] at h1
 unfold spC1 at h1
 rw [if_neg h0] at h1
 dsimp only at h1
 cases ho:X.getD (L[k]).toNat none with
 | none=>rw [ho] at h1;simp at h1
 | some o=>
  rw [ho] at h1
  simp only [Prod.mk.injEq,Bool.or_false] at h1
  have:=wentC_no h1.2
  have h2:=meetC_right o T ((hX _ o ho).trans hT.symm)
  rw [this] at h2
  exact h2
theorem spC1_zero (T:Ro) (s:Tb×Bool) (q:Int) (hq:0≤q):(spC1 T s q).1.getD 0 none=s.1.getD 0 none:=by
 unfold spC1
 split
 ·rfl
 ·have:q.toNat≠0:=by omega
  split <;> simp [List.getD,List.getElem?_set,this]
theorem spC_ind (T:Ro) (L:List Int) (X:Tb) (S:Tb→Prop) (h0:S X) (h:∀ s q,q∈L→S s.1→S (spC1 T s q).1):∀ k,S (spC T (L.take k) X).1
 | 0=>h0
 | k+1=>by
  have ih:=spC_ind T L X S h0 h k
  by_cases e:k<L.length
  ·rw [spC_take T L X k e]
   exact h _ _ (by simp [List.getD,e]) ih
  ·rw [List.take_of_length_le (by omega)] at ih ⊢
   exact ih
theorem spC_all (T:Ro) (L:List Int) (X:Tb) (S:Tb→Prop) (h0:S X) (h:∀ s q,q∈L→S s.1→S (spC1 T s q).1):S (spC T L X).1:=by
 have:=spC_ind T L X S h0 h L.length
 rwa [List.take_length] at this
theorem X0C_at (n R i:Nat) (hn:0<n):(X0C n R).getD i none=if i=0 then some (roNo R) else none:=by
 unfold X0C
 by_cases e:i=0
 ·subst e;rw [if_pos rfl];simp [List.getD,tbNo,hn]
 ·rw [if_neg e]
  have:((tbNo n).set 0 (some (roNo R))).getD i none=(tbNo n).getD i none:=by simp [List.getD,List.getElem?_set,Ne.symm e]
  rw [this,tbNo_at]
theorem run_zero {p:Pr} {R:Nat} (h0:0<p.blks.length) (hL:∀ n,n<p.blks.length→∀ q∈outsB (p.blks.getD n default),0≤q∧q<(p.blks.length:Int)) {od:List Int} (hod:∀ n:Nat,(n:Int)∈od→n<p.blks.length) {X:Tb} (h:RunC p od (X0C p.blks.length R) X):X.getD 0 none=some (roNo R):=by
 induction h with
 | start=>rw [X0C_at _ _ _ h0,if_pos rfl]
 | step X n t _ hn ht ih=>
  refine spC_all _ _ X (fun Y=>Y.getD 0 none=some (roNo R)) ih fun s q hq hs=>?_
  rw [spC1_zero _ _ _ (hL n (hod n hn) q hq).1];exact hs
end
section
section
variable {p:Pr} {R:Nat} (h0:0<p.blks.length) (hL:∀ n,n<p.blks.length→∀ q∈outsB (p.blks.getD n default),0≤q∧q<(p.blks.length:Int))
include h0 hL
end
end
section
theorem run_reach {p:Pr} {R:Nat} (h0:0<p.blks.length) (hL:∀ n,n<p.blks.length→∀ q∈outsB (p.blks.getD n default),0≤q∧q<(p.blks.length:Int)) {X:Tb} (h:RunC p (wkD p).ord.reverse (X0C p.blks.length R) X) :
  ∀ i t,X.getD i none=some t→((i:Nat):Int)∈(wkD p).ord:=by
 induction h with
 | start=>
  intro i t e
  rw [X0C_at _ _ _ h0] at e
  split at e
  ·rename_i e2
   subst e2
   exact ord_zero p h0
  ·cases e
 | step X n t hrun hn ht ih=>
  have hm:(n:Int)∈(wkD p).ord:=List.mem_reverse.1 hn
  have hnl:n<p.blks.length:=by have:=wkD_ord p _ hm;omega
  refine spC_all _ _ X (fun Y=>∀ i t,Y.getD i none=some t→((i:Nat):Int)∈(wkD p).ord) ih fun s q hq hs=>?_
  obtain ⟨a0,a1⟩:=hL n hnl q hq
  have hqo:q∈(wkD p).ord:=ord_closed p h0 hm (by
   rw [Int.toNat_natCast]
   unfold outsP
   rw [List.mem_filter]
   exact ⟨hq,by simp [a0,a1]⟩)
  have set:∀ a i u,(s.1.set q.toNat a).getD i none=some u→((i:Nat):Int)∈(wkD p).ord:=fun a i u e=>by
   by_cases e2:i=q.toNat
   ·subst e2
    rw [Int.toNat_of_nonneg a0];exact hqo
   ·rw [show (s.1.set q.toNat a).getD i none=s.1.getD i none by simp [List.getD,List.getElem?_set,Ne.symm e2]] at e
    exact hs i u e
  unfold spC1
  split
  ·exact hs
  ·split
   ·exact set _
   ·exact set _
end
section
def sizeL (bs:List Bk):Nat:=(bs.map fun b=>b.ins.length).sum
theorem sizeL_range (bs:List Bk):sizeL bs=((List.range bs.length).map fun n=>(bs.getD n default).ins.length).sum:=by
 unfold sizeL
 congr 1
 apply List.ext_getElem
 ·simp
 ·intro i h1 h2
  have hi:i<bs.length:=by simpa using h1
  simp [List.getD,hi]
theorem getD_mid {α:Type} (A B:List α) (a d:α):(A++a::B).getD A.length d=a:=by simp [List.getD]
theorem rg_set (l:List Int) (d r v:Int) (hd:0≤d) (hr:0≤r):rg (l.set d.toNat v) r=if r=d∧d.toNat<l.length then v else rg l r:=by
 unfold rg
 simp only [List.getD,List.getElem?_set]
 by_cases e:d.toNat=r.toNat
 ·have e2:r=d:=by omega
  rw [if_pos e]
  by_cases h:d.toNat<l.length
  ·rw [if_pos h,if_pos ⟨e2,h⟩];rfl
  ·rw [if_neg h,if_neg (fun q=>h q.2),e2];simp [Nat.le_of_not_lt h]
 ·rw [if_neg e,if_neg (fun q=>e (by omega))]
theorem rg_set_ne (l:List Int) {d r:Int} (v:Int) (hd:0≤d) (hr:0≤r) (h:r≠d):rg (l.set d.toNat v) r=rg l r:=by rw [rg_set _ _ _ _ hd hr,if_neg (fun q=>h q.1)]
structure Like (p q:Pr):Prop where
 params:q.params=p.params
 void:q.void=p.void
theorem getD_with {m:Md} {n:Nat} {q:Pr} (hn:n<m.procs.length) (k:Nat):(withM m n q).procs.getD k default=if k=n then q else m.procs.getD k default:=by
 by_cases e:k=n
 ·subst e;rw [if_pos rfl];exact pk_with m k q hn
 ·rw [if_neg e];exact pk_other m n q e
theorem like_at {m:Md} {n:Nat} {q:Pr} (hn:n<m.procs.length) (h:Like (pk m n) q) (k:Nat):((withM m n q).procs.getD k default).params=(m.procs.getD k default).params∧((withM m n q).procs.getD k default).void=(m.procs.getD k default).void:=by
 rw [getD_with hn]
 by_cases e:k=n
 ·subst e;rw [if_pos rfl];exact ⟨h.params,h.void⟩
 ·rw [if_neg e];exact ⟨rfl,rfl⟩
theorem okI_with {m:Md} {n:Nat} {q:Pr} (hn:n<m.procs.length) (h:Like (pk m n) q) (p:Pr) (i:In):okI (withM m n q) p i=okI m p i:=by
 unfold okI callF moreF
 rw [(like_at hn h i.obj.toNat).1,(like_at hn h i.obj.toNat).2,withM_len]
 rfl
theorem okB_with {m:Md} {n:Nat} {q:Pr} (hn:n<m.procs.length) (h:Like (pk m n) q) (p:Pr) (b:Bk):okB (withM m n q) p b=okB m p b:=by
 unfold okB
 congr 1
 rw [Bool.eq_iff_iff,List.all_eq_true,List.all_eq_true]
 exact forall_congr' fun x=>forall_congr' fun _=>by rw [okI_with hn h]
theorem okP_with {m:Md} {n:Nat} {q:Pr} (hn:n<m.procs.length) (h:Like (pk m n) q) (p:Pr):okP (withM m n q) p=okP m p:=by
 unfold okP
 congr 1
 rw [Bool.eq_iff_iff,List.all_eq_true,List.all_eq_true]
 exact forall_congr' fun x=>forall_congr' fun _=>by rw [okB_with hn h]
theorem okM_with {m:Md} {n:Nat} {q:Pr} (hn:n<m.procs.length) (h:Like (pk m n) q) (hok:okM m=true) (hq:okP m q=true):okM (withM m n q)=true:=by
 unfold okM at hok ⊢
 simp only [Bool.and_eq_true] at hok ⊢
 obtain ⟨h1,h2,h3,h4⟩:=hok
 refine ⟨?_,h2,?_,?_⟩
 ·unfold okHeadM at h1 ⊢
  rw [withM_len]
  exact h1
 ·have:=like_at hn h m.main.toNat
  show ((((withM m n q).procs.getD m.main.toNat default).params ==0)=true)∧(!((withM m n q).procs.getD m.main.toNat default).void)=true
  rw [this.1,this.2];exact h3
 ·rw [List.all_eq_true] at h4 ⊢
  intro x hx
  rw [okP_with hn h]
  unfold withM at hx
  dsimp only at hx
  rcases List.mem_or_eq_of_mem_set hx with hx|rfl
  ·exact h4 x hx
  ·exact hq
theorem okI_same {p q:Pr} (h1:q.regs=p.regs) (h2:q.objs=p.objs) (m:Md) (i:In):okI m q i=okI m p i:=by
 unfold okI callF moreF regF
 rw [h1,h2]
theorem endF_same {p q:Pr} (h1:q.regs=p.regs) (h2:q.void=p.void) (h3:q.blks.length=p.blks.length) (b:Bk):endF q b=endF p b:=by
 unfold endF blockF regF
 rw [h1,h2,h3]
structure Good (m:Md) (inp:List Int) (n:Nat) (q:Pr):Prop where
 like:Like (pk m n) q
 objs:q.objs=(pk m n).objs
 ok:okP m q=true
 pr:PrOk q
 sz:SzP q
 same:∀ f F,f≤F→(playM m inp f).e=0→SameO (playM m inp f) (playM (withM m n q) inp F)
theorem withM_with (m:Md) (n:Nat) (q q':Pr):withM (withM m n q) n q'=withM m n q':=by
 unfold withM;simp
theorem MdOk.with {m:Md} {n:Nat} {q:Pr} (h:MdOk m) (hq:PrOk q):MdOk (withM m n q):=by
 obtain ⟨h1,h2,h3,h4⟩:=h
 refine ⟨h1,h2,fun p hp=>?_,h4⟩
 unfold withM at hp
 rcases List.mem_or_eq_of_mem_set hp with hp|rfl
 ·exact h3 p hp
 ·exact hq
theorem SzM.with {m:Md} {n:Nat} {q:Pr} (h:SzM m) (hq:SzP q):SzM (withM m n q):=⟨fun p hp=>by
 unfold withM at hp
 rcases List.mem_or_eq_of_mem_set hp with hp|rfl
 ·exact h.procs p hp
 ·exact hq⟩
theorem Good.refl {m:Md} {inp:List Int} {n:Nat} (hok:okM m=true) (hmd:MdOk m) (hs:SzM m) (hn:n<m.procs.length):Good m inp n (pk m n):=by
 have hm:pk m n∈m.procs:=by unfold pk;simp [List.getD,hn]
 have e:withM m n (pk m n)=m:=by
  unfold withM pk
  have:m.procs.set n (m.procs.getD n default)=m.procs:=by
   apply List.ext_getElem
   ·simp
   ·intro i h1 h2
    rw [List.getElem_set]
    split
    ·rename_i h;subst h;simp [List.getD,hn]
    ·rfl
  rw [this]
 refine ⟨⟨rfl,rfl⟩,rfl,okM_proc hok hn,hmd.procs _ hm,hs.procs _ hm,fun f F hF he=>?_⟩
 rw [e]
 unfold playM at he ⊢
 have n1:¬ okM m=false:=by rw [hok];decide
 rw [if_neg n1] at he ⊢
 rw [if_neg n1]
 by_cases hen:65536<enM m
 ·rw [if_pos hen] at he;cases he
 ·rw [if_neg hen] at he ⊢
  rw [if_neg hen]
  generalize enterM m [] m.main.toNat [] 65536 ⟨mem0 m m.globs.length,[],0,0,0⟩=M at *
  rw [runM_it] at he ⊢
  rw [runM_it]
  unfold ocE at he ⊢
  cases hf:(itM m inp f M).fin
  ·rw [hf,if_neg (by decide)] at he;cases he
  ·obtain ⟨d,rfl⟩:=Nat.le.dest hF
   rw [if_pos rfl,itM_add,itM_fin _ hf,if_pos hf]
   exact SameO.refl _
theorem getD_in {α:Type} {l:List α} {j:Nat} {d:α} (h:j<l.length):l.getD j d∈l:=by simp [List.getD,h]
theorem i64_0:I64 0:=⟨by decide,by decide⟩
theorem i64_1:I64 1:=⟨by decide,by decide⟩
theorem i64_m:I64 (-1):=⟨by decide,by decide⟩
end
section
def constI (d n:Int):In:=⟨1,d, -1, -1,0,0,0,0,n,[],false⟩
def knwI (t:Ro) (i:In):In:=if i.op=2∨i.op=3∨i.op=4 then (match cAt t i.d with|some n=>constI i.d n|none=>i) else i
def knwL:Ro→List In→List In
 | _,[]=>[]
 | t,i::l=>knwI (behC t i) i::knwL (behC t i) l
def jmpB (b:Bk) (n:Int):Bk:=⟨b.ins,1, -1,if n=0 then b.els else b.to,0⟩
def knwE (t:Ro) (b:Bk):Bk:=if b.fin=2 then (match cAt t b.a with|some n=>jmpB b n|none=>b) else b
def knwB (t:Ro) (b:Bk):Bk:=knwE (thrC t b.ins) ⟨knwL t b.ins,b.fin,b.a,b.to,b.els⟩
def knwP (p:Pr) (X:Nat→Ro):Pr:=⟨p.void,p.params,p.regs,p.objs,(List.range p.blks.length).map fun n=>knwB (X n) (p.blks.getD n default)⟩
theorem knwL_len:∀ (l:List In) (t:Ro),(knwL t l).length=l.length
 | [],_=>rfl
 | i::l,t=>by simp [knwL,knwL_len l]
theorem knwL_at:∀ (l:List In) (t:Ro) (k:Nat),k<l.length→(knwL t l).getD k default=knwI (thrC t (l.take (k+1))) (l.getD k default)
 | [],_,_,h=>absurd h (Nat.not_lt_zero _)
 | i::l,t,0,_=>rfl
 | i::l,t,k+1,h=>by
  have:=knwL_at l (behC t i) k (by simpa using h)
  rw [knwL,List.getD_cons_succ,this,List.take_succ_cons,List.getD_cons_succ];rfl
theorem thrC_app (t:Ro) (a b:List In):thrC t (a++b)=thrC (thrC t a) b:=by unfold thrC;rw [List.foldl_append]
theorem thrC_snoc (t:Ro) (l:List In) (k:Nat) (h:k<l.length):thrC t (l.take (k+1))=behC (thrC t (l.take k)) (l.getD k default):=by
 rw [List.take_succ,List.getElem?_eq_getElem h,thrC_app]
 simp [thrC,List.getD,h]
theorem knwB_ins (t:Ro) (b:Bk):(knwB t b).ins=knwL t b.ins:=by
 unfold knwB knwE
 split
 ·split <;> rfl
 ·rfl
theorem knwB_end (t:Ro) (b:Bk):((knwB t b).fin=b.fin∧(knwB t b).a=b.a∧(knwB t b).to=b.to∧(knwB t b).els=b.els)∧(b.fin=2→cAt (thrC t b.ins) b.a=none)∨b.fin=2∧∃ n,cAt (thrC t b.ins) b.a=some n∧(knwB t b).fin=1∧(knwB t b).a= -1∧(knwB t b).to=(if n=0 then b.els else b.to)∧(knwB t b).els=0:=by
 unfold knwB knwE
 dsimp only
 by_cases h:b.fin=2
 ·rw [if_pos h]
  cases hc:cAt (thrC t b.ins) b.a with
  | none=>exact .inl ⟨⟨rfl,rfl,rfl,rfl⟩,fun _=>rfl⟩
  | some n=>exact .inr ⟨h,n,rfl,rfl,rfl,rfl,rfl⟩
 ·rw [if_neg h]
  exact .inl ⟨⟨rfl,rfl,rfl,rfl⟩,fun e=>absurd e h⟩
theorem knwP_len (p:Pr) (X:Nat→Ro):(knwP p X).blks.length=p.blks.length:=by simp [knwP]
theorem knwP_at (p:Pr) (X:Nat→Ro) {n:Nat} (h:n<p.blks.length):(knwP p X).blks.getD n default=knwB (X n) (p.blks.getD n default):=by simp [knwP,List.getD,h]
def Kn (t:Ro) (regs:List Int):Prop:=∀ (r:Nat) (x:Int),t.getD r none=some x→regs.getD r 0=x
theorem Kn.at {t:Ro} {regs:List Int} (h:Kn t regs) {r x:Int} (e:cAt t r=some x):rg regs r=x:=by
 unfold cAt at e
 split at e
 ·exact h _ _ e
 ·cases e
theorem Kn.le {a b:Ro} {regs:List Int} (k:Kn b regs) (h:LeR a b):Kn a regs:=fun r x e=>by
 rcases h.2 r with e2|e2
 ·exact k r x (e2 ▸ e)
 ·rw [e2] at e;cases e
theorem Kn.set {t:Ro} {regs:List Int} (h:Kn t regs) (d:Nat) (o:Option Int) (v:Int) (hv:∀ x,o=some x→v=x) (hl:t.length≤regs.length):Kn (t.set d o) (regs.set d v):=fun r x e=>by
 by_cases er:d=r
 ·subst er
  by_cases hl2:d<t.length
  ·have e1:(t.set d o).getD d none=o:=by simp [List.getD,hl2]
   rw [e1] at e
   have e2:(regs.set d v).getD d 0=v:=by simp [List.getD,Nat.lt_of_lt_of_le hl2 hl]
   rw [e2];exact hv x e
  ·have e1:(t.set d o)[d]?=none:=List.getElem?_eq_none (by simp;omega)
   rw [List.getD_eq_getElem?_getD,e1] at e;cases e
 ·rw [show (t.set d o).getD r none=t.getD r none by simp [List.getD,List.getElem?_set,er]] at e
  rw [show (regs.set d v).getD r 0=regs.getD r 0 by simp [List.getD,List.getElem?_set,er]]
  exact h r x e
theorem set_none_le (t:Ro) (d:Nat):LeR (t.set d none) t:=⟨by simp,fun i=>by
 by_cases e:d=i
 ·right
  subst e
  by_cases hl:d<t.length
  ·simp [List.getD,hl]
  ·have e1:(t.set d none)[d]?=none:=List.getElem?_eq_none (by simp;omega)
   rw [List.getD_eq_getElem?_getD,e1];rfl
 ·left;simp [List.getD,List.getElem?_set,e]⟩
theorem Kn.num {m:Md} {inp:List Int} {p:Pr} {low:Int} {i:In} {regs:List Int} {s:Oc} {r:List Int×Oc} {t:Ro} (hk:Kn t regs) {x:Int} (e:numC t i=some x) (h:insM m inp p low i regs s=some r):r=(regs.set i.d.toNat x,s):=by
 unfold numC at e
 unfold insM at h
 by_cases h1:i.op=1
 ·rw [if_pos h1] at e h;cases e;cases h;rfl
 ·rw [if_neg h1] at e h
  by_cases h2:i.op=2
  ·rw [if_pos h2] at e h
   cases h
   rw [hk.at e]
  ·rw [if_neg h2] at e h
   by_cases h4:i.op=4
   ·rw [if_pos h4] at e
    rw [if_neg (by omega),if_pos h4] at h
    cases ha:cAt t i.a with
    | none=>rw [ha] at e;cases e
    | some y=>
     rw [ha] at e
     simp only [Option.map_some,Option.some.injEq] at e
     cases h
     rw [hk.at ha,e]
   ·rw [if_neg h4] at e
    by_cases h3:i.op=3
    ·rw [if_pos h3] at e h
     cases ha:cAt t i.a with
     | none=>rw [ha] at e;cases e
     | some y=>
      cases hb:cAt t i.b with
      | none=>rw [ha,hb] at e;cases e
      | some z=>
       rw [ha,hb] at e
       simp only [Option.bind_some,Option.map_some,Option.some.injEq] at e
       cases h
       rw [hk.at ha,hk.at hb,e]
    ·rw [if_neg h3] at e;cases e
theorem Kn.ins {m:Md} {inp:List Int} {p p':Pr} {low:Int} {i:In} {regs:List Int} {s:Oc} {r:List Int×Oc} {t:Ro} (hk:Kn t regs) (hl:t.length≤regs.length) (hok:okI m p' i=true) (h9:i.op≠9) (h:insM m inp p low i regs s=some r):Kn (behC t i) r.1:=by
 have hop:=ops12 hok
 unfold behC
 rcases (insM_shape ⟨hop.1,hop.2,h9⟩ h).1 with ⟨e1,e2⟩|⟨e1,n6,n10,n12,v,e2⟩
 ·rw [if_pos e1,e2];exact hk
 ·have hd:=okI_d hok ⟨n6,n10,n12,h9⟩
  rw [if_neg (by omega),e1]
  cases hN:numC t i with
  | none=>rw [e2];exact hk.set _ none v (fun x hx=>by cases hx) hl
  | some x=>rw [hk.num hN h];exact hk.set _ _ _ (fun y hy=>by cases hy;rfl) hl
theorem knwI_op {t:Ro} {i:In} (h9:i.op≠9):(knwI t i).op≠9:=by
 unfold knwI
 split
 ·split
  ·exact (by decide:(1:Int)≠9)
  ·exact h9
 ·exact h9
theorem knwI_call {t:Ro} {i:In} (h9:i.op=9):knwI t i=i:=by
 unfold knwI
 rw [if_neg (by omega)]
theorem knwI_ins {m:Md} {inp:List Int} {p p':Pr} {low:Int} {i:In} {regs:List Int} {s:Oc} {r:List Int×Oc} {t:Ro} (hk:Kn t regs) (hok:okI m p' i=true) (h:insM m inp p low i regs s=some r):insM m inp p low (knwI (behC t i) i) regs s=some r:=by
 unfold knwI
 by_cases h3:i.op=2∨i.op=3∨i.op=4
 ·rw [if_pos h3]
  cases hc:cAt (behC t i) i.d with
  | none=>exact h
  | some n=>
   have hd:=okI_d hok (by omega)
   have e1:defI i=i.d:=by unfold defI;rw [if_pos (by omega)]
   have e2:behC t i=t.set i.d.toNat (numC t i):=by unfold behC;rw [if_neg (by omega),e1]
   rw [e2] at hc
   unfold cAt at hc
   rw [List.length_set] at hc
   by_cases hl:0≤i.d∧i.d<(t.length:Int)
   ·rw [if_pos hl] at hc
    rw [show (t.set i.d.toNat (numC t i)).getD i.d.toNat none=numC t i by simp [List.getD,show i.d.toNat<t.length by omega]] at hc
    rw [hk.num hc h];rfl
   ·rw [if_neg hl] at hc;cases hc
 ·rw [if_neg h3];exact h
structure KnX (p:Pr) (X:Nat→Option Ro):Prop where
 zero:X 0=some (roNo p.regs.toNat)
 len:∀ n t,X n=some t→t.length=p.regs.toNat
 ok:∀ n t,X n=some t→RoOk t
 on:∀ n t,n<p.blks.length→X n=some t→∀ q∈outsB (p.blks.getD n default),q≠0→∃ u,X q.toNat=some u∧LeR u (thrC t (p.blks.getD n default).ins)
def KnT (p:Pr) (X:Nat→Option Ro) (f f':Fr):Prop:=f'=f∧∃ t,X f.b=some t∧Kn (thrC t ((p.blks.getD f.b default).ins.take f.i)) f.regs
def rowsX (p:Pr) (X:Nat→Option Ro) (n:Nat):Ro:=(X n).getD (roNo p.regs.toNat)
section
variable {m:Md} {n:Nat} {X:Nat→Option Ro}
theorem kn_bk (hn:n<m.procs.length) {f:Fr} (e1:f.n=n) (hb:f.b<(pk m n).blks.length):fBk (withM m n (knwP (pk m n) (rowsX (pk m n) X))) f=knwB (rowsX (pk m n) X f.b) (fBk m f):=by
 unfold fBk
 rw [e1,pk_with _ _ _ hn,knwP_at _ _ hb]
theorem kn_in (hn:n<m.procs.length) {f:Fr} (e1:f.n=n) (hb:f.b<(pk m n).blks.length) (hi:f.i<(fBk m f).ins.length):fIn (withM m n (knwP (pk m n) (rowsX (pk m n) X))) f=knwI (thrC (rowsX (pk m n) X f.b) ((fBk m f).ins.take (f.i+1))) (fIn m f):=by
 unfold fIn
 rw [kn_bk hn e1 hb,knwB_ins,knwL_at _ _ _ hi]
theorem known_rep {inp:List Int} (hok:okM m=true) (hn:n<m.procs.length) (HX:KnX (pk m n) X) :
  RepS m inp n (knwP (pk m n) (rowsX (pk m n) X)) (fun f f'=>KnT (pk m n) X f f') (fun f f' s s'=>KnT (pk m n) X f f'∧s'=s) 1:=by
 have hP:=okM_proc hok hn
 have bkf:∀ f:Fr,f.n=n→fBk m f=(pk m n).blks.getD f.b default:=fun f e=>by unfold fBk;rw [e]
 refine ⟨Nat.le_refl _,?_,?_,?_,?_,?_,?_⟩
 ·intro args low s ha haw hm
  exact ⟨⟨rfl,_,HX.zero,fun r x e=>by rw [show thrC (roNo (pk m n).regs.toNat) (List.take 0 _)=roNo (pk m n).regs.toNat from rfl,roNo_at] at e;cases e⟩,rfl⟩
 ·rintro f f' s s' r e1 e2 e3 ⟨⟨rfl,t,hX,hK⟩,rfl⟩ hG hm hi h9 h
  have hb:f'.b<(pk m n).blks.length:=by have:=hG.b;rw [e1] at this;exact this
  have hI:okI m (pk m n) (fIn m f')=true:=by
   have:=okB_ins (okP_blk hP hb) (i:=f'.i) (by rw [bkf f' e1] at hi;exact hi)
   unfold fIn;rw [bkf f' e1];exact this
  have hrow:rowsX (pk m n) X f'.b=t:=by unfold rowsX;rw [hX];rfl
  have hsn:=thrC_snoc t (fBk m f').ins f'.i hi
  rw [←bkf f' e1] at hK
  refine ⟨1,{ f' with regs:=r.1,i:=f'.i+1 },r.2,Nat.le_refl _,e1,rfl,fun K=>?_,⟨rfl,t,hX,?_⟩,rfl⟩
  ·rw [it_one (fin_on _ _ _)]
   refine fs_ins ?_ ?_ ?_
   ·rw [kn_bk hn e1 hb,knwB_ins,knwL_len];omega
   ·rw [kn_in hn e1 hb hi];exact knwI_op h9
   ·rw [kn_in hn e1 hb hi,hrow,hsn,e1,pk_with _ _ _ hn]
    show insM m inp (knwP (pk m n) _) _ _ _ _=_
    rw [insM_objs m inp (p:=pk m n) (p':=knwP (pk m n) (rowsX (pk m n) X)) rfl]
    exact knwI_ins hK hI h
  ·show Kn (thrC t (((pk m n).blks.getD f'.b default).ins.take (f'.i+1))) r.1
   rw [←bkf f' e1,hsn]
   refine hK.ins ?_ hI h9 h
   rw [thrC_len,HX.len _ _ hX]
   have:=hG.r
   rw [e1] at this
   omega
 ·rintro f f' s s' e1 e2 e3 ⟨⟨rfl,t,hX,hK⟩,rfl⟩ hG hm hi h9
  have hb:f'.b<(pk m n).blks.length:=by have:=hG.b;rw [e1] at this;exact this
  have hsn:=thrC_snoc t (fBk m f').ins f'.i hi
  rw [←bkf f' e1] at hK
  refine ⟨0,f',Nat.le_refl _,e1,rfl,fun K=>rfl,fun K=>?_,rfl,t,hX,?_⟩
  ·rw [fs_call (by rw [kn_bk hn e1 hb,knwB_ins,knwL_len];omega) (by rw [kn_in hn e1 hb hi,knwI_call h9];exact h9),kn_in hn e1 hb hi,knwI_call h9]
  ·show Kn (thrC t (((pk m n).blks.getD f'.b default).ins.take (f'.i+1))) f'.regs
   rw [←bkf f' e1,hsn]
   unfold behC
   split
   ·exact hK
   ·have e:numC (thrC t ((fBk m f').ins.take f'.i)) ((fBk m f').ins.getD f'.i default)=none:=by
     have h9:((fBk m f').ins.getD f'.i default).op=9:=h9
     unfold numC
     rw [if_neg (by omega),if_neg (by omega),if_neg (by omega),if_neg (by omega)]
    rw [e]
    exact hK.le (set_none_le _ _)
 ·rintro f f' v s e1 e2 e3 ⟨rfl,t,hX,hK⟩ hU hv hm
  have hG:=hU.g
  have hb:f'.b<(pk m n).blks.length:=by have:=hG.b;rw [e1] at this;exact this
  rw [←bkf f' e1] at hK
  have h9:((fBk m f').ins.getD (f'.i-1) default).op=9:=hU.c
  have hi1:=hU.i
  have hlt:f'.i-1<(fBk m f').ins.length:=by have:f'.i≤(fBk m f').ins.length:=hG.i;omega
  have hsn:=thrC_snoc t (fBk m f').ins (f'.i-1) hlt
  rw [show f'.i-1+1=f'.i by omega] at hsn
  have hin:((fBk (withM m n (knwP (pk m n) (rowsX (pk m n) X))) f').ins.getD (f'.i-1) default)=(fBk m f').ins.getD (f'.i-1) default:=by
   rw [kn_bk hn e1 hb,knwB_ins,knwL_at _ _ _ hlt,knwI_call h9]
  have hret:retF (withM m n (knwP (pk m n) (rowsX (pk m n) X))) f' v=retF m f' v:=by
   show (if ((fBk (withM m n (knwP (pk m n) (rowsX (pk m n) X))) f').ins.getD (f'.i-1) default).d≠ -1 then ({ f' with regs:=f'.regs.set ((fBk (withM m n (knwP (pk m n) (rowsX (pk m n) X))) f').ins.getD (f'.i-1) default).d.toNat v }:Fr) else f')=_
   rw [hin];rfl
  have hq:=retF_eq m f' v
  refine ⟨⟨hret,t,by rw [hq.2.2.1];exact hX,?_⟩,rfl⟩
  rw [hq.2.2.1,hq.2.2.2,←bkf f' e1]
  by_cases hd:((fBk m f').ins.getD (f'.i-1) default).d≠ -1
  ·have er:(retF m f' v).regs=f'.regs.set ((fBk m f').ins.getD (f'.i-1) default).d.toNat v:=by
    show (if ((fBk m f').ins.getD (f'.i-1) default).d≠ -1 then ({ f' with regs:=f'.regs.set ((fBk m f').ins.getD (f'.i-1) default).d.toNat v }:Fr) else f').regs=_
    rw [if_pos hd]
   rw [er]
   have hdef:defI ((fBk m f').ins.getD (f'.i-1) default)=((fBk m f').ins.getD (f'.i-1) default).d:=by unfold defI;rw [if_pos (by omega)]
   have hnum:numC (thrC t ((fBk m f').ins.take (f'.i-1))) ((fBk m f').ins.getD (f'.i-1) default)=none:=by
    unfold numC
    rw [if_neg (by omega),if_neg (by omega),if_neg (by omega),if_neg (by omega)]
   have hbeh:thrC t ((fBk m f').ins.take f'.i)=(thrC t ((fBk m f').ins.take (f'.i-1))).set ((fBk m f').ins.getD (f'.i-1) default).d.toNat none:=by
    rw [hsn];unfold behC;rw [if_neg (by omega),hdef,hnum]
   have hlen:(thrC t ((fBk m f').ins.take f'.i)).length≤f'.regs.length:=by
    rw [thrC_len,HX.len _ _ hX]
    have:=hG.r
    rw [e1] at this
    omega
   have:=hK.set ((fBk m f').ins.getD (f'.i-1) default).d.toNat none v (fun x hx=>by cases hx) hlen
   rwa [hbeh,List.set_set,←hbeh] at this
  ·have er:(retF m f' v).regs=f'.regs:=by
    show (if ((fBk m f').ins.getD (f'.i-1) default).d≠ -1 then ({ f' with regs:=f'.regs.set ((fBk m f').ins.getD (f'.i-1) default).d.toNat v }:Fr) else f').regs=_
    rw [if_neg hd]
   rw [er];exact hK
 ·rintro f f' s s' e1 e2 e3 ⟨⟨rfl,t,hX,hK⟩,rfl⟩ hG hm hi h3
  have hb:f'.b<(pk m n).blks.length:=by have:=hG.b;rw [e1] at this;exact this
  have hB:=okP_blk hP hb
  rw [←bkf f' e1,hi,List.take_length] at hK
  have hrow:rowsX (pk m n) X f'.b=t:=by unfold rowsX;rw [hX];rfl
  have hbk:=kn_bk (X:=X) hn e1 hb
  have hend:=knwB_end t (fBk m f')
  rw [hrow] at hbk
  have hnx:fNext (withM m n (knwP (pk m n) (rowsX (pk m n) X))) f'=fNext m f'∧(fBk (withM m n (knwP (pk m n) (rowsX (pk m n) X))) f').fin≠3:=by
   unfold fNext
   rw [hbk]
   rcases hend with ⟨⟨a1,a2,a3,a4⟩, -⟩|⟨a0,x,a1,a2,a3,a4,a5⟩
   ·rw [a1,a2,a3,a4];exact ⟨rfl,h3⟩
   ·have hx:=hK.at a1
    rw [a2,a4,hx]
    refine ⟨?_,by decide⟩
    rw [if_neg (fun h=>absurd h.1 (by decide))]
    by_cases ez:x=0
    ·rw [if_pos ez,if_pos ⟨a0,ez⟩]
    ·rw [if_neg ez,if_neg (fun h=>ez h.2)]
  refine ⟨1,fNext m f',s',Nat.le_refl _,e1,rfl,fun K=>?_,⟨rfl,?_⟩,rfl⟩
  ·rw [it_one (fin_on _ _ _),fs_end (by rw [hbk,knwB_ins,knwL_len];exact hi) hnx.2,hnx.1]
  ·have ho:=outs_next (p:=pk m n) (b:=f'.b) (okB_end hB) (by rw [←bkf f' e1];exact h3) ((fBk m f').fin=2∧rg f'.regs (fBk m f').a=0) (by rw [←bkf f' e1];exact fun h h2=>h h2.1)
   rw [←bkf f' e1] at ho
   unfold outsP at ho
   rw [List.mem_filter] at ho
   obtain ⟨ho1,ho2⟩:=ho
   simp only [Bool.and_eq_true,decide_eq_true_eq] at ho2
   have hbn:(fNext m f').b=(if (fBk m f').fin=2∧rg f'.regs (fBk m f').a=0 then (fBk m f').els else (fBk m f').to).toNat:=rfl
   have hin:(fNext m f').i=0:=rfl
   have hrn:(fNext m f').regs=f'.regs:=rfl
   rw [hbn,hin,hrn]
   generalize (if (fBk m f').fin=2∧rg f'.regs (fBk m f').a=0 then (fBk m f').els else (fBk m f').to)=q at *
   by_cases hq:q=0
   ·subst hq
    exact ⟨_,HX.zero,fun r x e=>by rw [show thrC (roNo (pk m n).regs.toNat) (List.take 0 _)=roNo (pk m n).regs.toNat from rfl,roNo_at] at e;cases e⟩
   ·obtain ⟨u,hu1,hu2⟩:=HX.on _ _ hb hX q ho1 hq
    rw [←bkf f' e1] at hu2
    exact ⟨u,hu1,hK.le hu2⟩
 ·rintro f f' s s' e1 e2 e3 ⟨⟨rfl,t,hX,hK⟩,rfl⟩ hG hm hi h3
  have hb:f'.b<(pk m n).blks.length:=by have:=hG.b;rw [e1] at this;exact this
  have hrow:rowsX (pk m n) X f'.b=t:=by unfold rowsX;rw [hX];rfl
  have hbk:=kn_bk (X:=X) hn e1 hb
  have hend:=knwB_end t (fBk m f')
  rw [hrow] at hbk
  rcases hend with ⟨⟨a1,a2,a3,a4⟩, -⟩|⟨a0, -⟩
  ·refine ⟨0,f',Nat.le_refl _,fun K=>rfl,fun K=>?_⟩
   rw [fs_ret (by rw [hbk,knwB_ins,knwL_len];exact hi) (by rw [hbk,a1];exact h3),hbk,a2]
  ·omega
end
theorem constI_ok {m:Md} {p:Pr} {d n:Int} (h0:0≤d) (h1:d<p.regs):okI m p (constI d n)=true:=by
 unfold okI bareF plainI constI regF moreF defI readsA readsB
 simp [h0,h1]
theorem knwI_ok {m:Md} {p:Pr} {t:Ro} {i:In} (h:okI m p i=true):okI m p (knwI t i)=true:=by
 unfold knwI
 split
 ·rename_i h3
  split
  ·have hd:=okI_d h (by omega)
   exact constI_ok hd.1 hd.2
  ·exact h
 ·exact h
theorem knwL_mem {t:Ro} {l:List In} {i:In} (h:i∈knwL t l):∃ k,k<l.length∧i=knwI (thrC t (l.take (k+1))) (l.getD k default):=by
 obtain ⟨k,hk,rfl⟩:=List.getElem_of_mem h
 rw [knwL_len] at hk
 refine ⟨k,hk,?_⟩
 rw [←knwL_at l t k hk]
 simp [List.getD,knwL_len,hk]
theorem knwP_mem {p:Pr} {X:Nat→Ro} {b:Bk} (h:b∈(knwP p X).blks):∃ k,k<p.blks.length∧b=knwB (X k) (p.blks.getD k default):=by
 obtain ⟨k,hk,rfl⟩:=List.mem_map.1 h
 exact ⟨k,List.mem_range.1 hk,rfl⟩
theorem knwP_insN (p:Pr) (X:Nat→Ro):insN (knwP p X)=insN p:=by
 have h1:=sizeL_range p.blks
 have h2:=sizeL_range (knwP p X).blks
 unfold sizeL at h1 h2
 unfold insN
 rw [h1,h2,knwP_len]
 congr 1
 refine List.map_congr_left fun k hk=>?_
 rw [knwP_at p X (List.mem_range.1 hk),knwB_ins,knwL_len]
theorem knw_end_ok {p:Pr} {t:Ro} {b:Bk} (h:endF p b=true):endF p (knwB t b)=true:=by
 rcases knwB_end t b with ⟨⟨a1,a2,a3,a4⟩, -⟩|⟨a0,x,a1,a2,a3,a4,a5⟩
 ·unfold endF at h ⊢
  rw [a1,a2,a3,a4];exact h
 ·unfold endF at h ⊢
  rw [a0] at h
  rw [a2,a3,a4,a5]
  rw [if_neg (by decide),if_pos rfl] at h
  simp only [Bool.and_eq_true] at h
  rw [if_pos rfl]
  simp only [beq_self_eq_true,Bool.and_self,Bool.and_true]
  split
  ·exact h.2.1
  ·exact h.1
theorem knwP_okP {m:Md} {p:Pr} {X:Nat→Ro} (h:okP m p=true):okP m (knwP p X)=true:=by
 unfold okP okHead at h ⊢
 simp only [Bool.and_eq_true,decide_eq_true_eq,List.all_eq_true] at h ⊢
 obtain ⟨⟨h1,h2,h3,h4,h5,h6,h7,h8,h9⟩,hb⟩:=h
 refine ⟨⟨h1,h2,h3,h4,h5,by rw [knwP_len];exact h6,by rw [knwP_len];exact h7,h8,by rw [knwP_insN];exact h9⟩,fun b hbm=>?_⟩
 obtain ⟨k,hk,rfl⟩:=knwP_mem hbm
 have:=hb (p.blks.getD k default) (getD_in hk)
 unfold okB at this ⊢
 simp only [Bool.and_eq_true,List.all_eq_true] at this ⊢
 refine ⟨fun i hi=>?_,?_⟩
 ·rw [knwB_ins] at hi
  obtain ⟨j,hj,rfl⟩:=knwL_mem hi
  rw [okI_same (q:=knwP p X) (p:=p) rfl rfl]
  exact knwI_ok (this.1 _ (getD_in hj))
 ·rw [endF_same (q:=knwP p X) (p:=p) rfl rfl (knwP_len p X)]
  exact knw_end_ok this.2
theorem knwI_in {t:Ro} {i:In} (hi:InOk i) (ht:RoOk t):InOk (knwI t i):=by
 unfold knwI
 split
 ·split
  ·rename_i n hc
   have:=ht.at _ _ hc
   exact ⟨i64_1,hi.d,i64_m,i64_m,i64_0,i64_0,i64_0,i64_0,this,fun x hx=>by cases hx⟩
  ·exact hi
 ·exact hi
theorem knwP_ok {p:Pr} {X:Nat→Ro} (h:PrOk p) (hX:∀ n,RoOk (X n)):PrOk (knwP p X):=by
 refine ⟨h.params,h.regs,h.objs,fun b hb=>?_⟩
 obtain ⟨k,hk,rfl⟩:=knwP_mem hb
 have hB:=h.blks (p.blks.getD k default) (getD_in hk)
 have hins:∀ i∈(knwB (X k) (p.blks.getD k default)).ins,InOk i:=fun i hi=>by
  rw [knwB_ins] at hi
  obtain ⟨j,hj,rfl⟩:=knwL_mem hi
  refine knwI_in (hB.ins _ (getD_in hj)) (thrC_ok (hX k) fun x hx=>(hB.ins x (List.mem_of_mem_take hx)).num)
 rcases knwB_end (X k) (p.blks.getD k default) with ⟨⟨a1,a2,a3,a4⟩, -⟩|⟨a0,x,a1,a2,a3,a4,a5⟩
 ·exact ⟨hins,by rw [a1];exact hB.fin,by rw [a2];exact hB.a,by rw [a3];exact hB.to,by rw [a4];exact hB.els⟩
 ·refine ⟨hins,by rw [a2];exact i64_1,by rw [a3];exact i64_m,?_,by rw [a5];exact i64_0⟩
  rw [a4];split
  ·exact hB.els
  ·exact hB.to
theorem rowsX_ok {p:Pr} {X:Nat→Option Ro} (H:KnX p X) (n:Nat):RoOk (rowsX p X n):=by
 unfold rowsX
 cases h:X n with
 | none=>exact roNo_ok _
 | some t=>exact H.ok n t h
theorem Good.known {m:Md} {inp:List Int} {n:Nat} {q:Pr} {X:Nat→Option Ro} (hok:okM m=true) (hmd:MdOk m) (hiw:∀ x∈inp,0≤x∧x<4294967296) (hn:n<m.procs.length) (HX:KnX q X) (h:Good m inp n q):Good m inp n (knwP q (rowsX q X)):=by
 refine ⟨⟨h.like.params,h.like.void⟩,h.objs,knwP_okP h.ok,knwP_ok h.pr (rowsX_ok HX),?_,fun f F hF he=>?_⟩
 ·refine ⟨by rw [knwP_len];exact h.sz.blks,fun b hb=>?_⟩
  obtain ⟨k,hk,rfl⟩:=knwP_mem hb
  rw [knwB_ins,knwL_len]
  exact h.sz.ins _ (getD_in hk)
 ·have s1:=h.same f f (Nat.le_refl _) he
  have hok1:=okM_with hn h.like hok h.ok
  have hpk:pk (withM m n q) n=q:=pk_with m n q hn
  have hn1:n<(withM m n q).procs.length:=by rw [withM_len];exact hn
  have hr:=known_rep (inp:=inp) (X:=X) hok1 hn1 (by rw [hpk];exact HX)
  rw [hpk] at hr
  have hok2:okM (withM (withM m n q) n (knwP q (rowsX q X)))=true:=by
   rw [withM_with]
   exact okM_with hn ⟨h.like.params,h.like.void⟩ hok (knwP_okP h.ok)
  have s2:=hr.play hok1 hok2 (hmd.with h.pr) hiw hn1 (by rw [hpk];rfl) (f:=f) (F:=F) (by omega) (by rw [←s1.e];exact he)
  rw [withM_with] at s2
  exact s1.trans s2
end
end Go.Proofs.YtkhfddodmjnecaaGreatDoor
