/-
Contracts of the statements' Few and few: is a module, a procedure, not more than statements go through?
-/
import Derived.Test.YtmcddolkpcgddaaZHazardFinds08
set_option maxHeartbeats 2000000
set_option maxRecDepth 20000
set_option linter.all false
namespace Go.Proofs.Ytmcddolkpcgddaa
section
theorem qnh {α:Type} {l:List α} {p q:α→Bool} (h:∀ a∈l,p a=true→q a=true) {a:α} (ha:a∈l) (hp:p a=false) (hq:q a=true):l.countP p<l.countP q:=by
 induction l with
 | nil=>cases ha
 | cons b l ih=>
  have hm:=List.countP_mono_left (l:=l) (p:=p) (q:=q) fun x hx=>h x (List.mem_cons_of_mem _ hx)
  have hb:=h b (List.mem_cons_self ..)
  rw [List.countP_cons,List.countP_cons]
  rcases List.mem_cons.1 ha with rfl|ha
  ·rw [hp,hq];simp;omega
  ·have:=ih (fun x hx=>h x (List.mem_cons_of_mem _ hx)) ha
   cases e1:p b <;> cases e2:q b <;> simp [e1,e2] at hb ⊢ <;> omega
def qg3 (n T:Nat):List (Option Nat×Nat):=(none::(List.range n).map some).flatMap fun o=>(List.range T).map fun t=>(o,t)
theorem qo6 {n T:Nat} {o:Option Nat} {t:Nat} (ho:∀ r,o=some r→r<n) (ht:t<T):(o,t)∈qg3 n T:=by
 unfold qg3
 rw [List.mem_flatMap]
 refine ⟨o,?_,List.mem_map.2 ⟨t,List.mem_range.2 ht,rfl⟩⟩
 cases o with
 | none=>exact List.mem_cons_self ..
 | some r=>exact List.mem_cons_of_mem _ (List.mem_map.2 ⟨r,List.mem_range.2 (ho r rfl),rfl⟩)
def AS.cnt (x:AS) (n T:Nat):Nat:=(qg3 n T).countP fun c=>(x.get c.1).testBit c.2
theorem AS.cnt_le (x:AS) (n T:Nat):x.cnt n T≤(qg3 n T).length:=List.countP_le_length
theorem AS.pass_news {l:List Con} {x:AS} (hl:∀ c∈l,c.inn x.regs.length) (h:(x.pass l).2=true):∃ o t,(∀ r,o=some r→r<x.regs.length)∧¬ x.sem o t∧(x.pass l).1.sem o t:=by
 induction l generalizing x with
 | nil=>cases h
 | cons c l ih=>
  have hc:=hl c (List.mem_cons_self ..)
  have hl2:∀ c'∈l,c'.inn (x.con c).regs.length:=fun c' hc'=>by rw [AS.con_len];exact hl c' (List.mem_cons_of_mem _ hc')
  rw [AS.pass_cons] at h ⊢
  cases hn:((x.con c).pass l).2 with
  | true=>
   obtain ⟨o,t,h0,h1,h2⟩:=ih hl2 hn
   exact ⟨o,t,fun r e=>by have:=h0 r e;rwa [AS.con_len] at this,fun e=>h1 ((AS.sem_con x c hc o t).2 (.inl e)),h2⟩
  | false=>
   rw [hn] at h
   have hnew:x.news c=true:=by simpa using h
   have key:∀ (d:Option Nat) (w:Nat),(x.get d ||| w !=x.get d)=true→∃ t,¬ x.sem d t∧w.testBit t=true:=by
    intro d w hne
    have hne:x.get d ||| w≠x.get d:=by simpa using hne
    apply Classical.byContradiction
    intro hno
    apply hne
    refine Nat.eq_of_testBit_eq fun i=>?_
    rw [Nat.testBit_or]
    cases e1:(x.get d).testBit i with
    | true=>rfl
    | false=>
     cases e2:w.testBit i with
     | false=>rfl
     | true=>exact absurd ⟨i,by simp [AS.sem,e1],e2⟩ hno
   cases c with
   | sub s d=>
    obtain ⟨t,h1,h2⟩:=key d _ hnew
    exact ⟨d,t,hc.2,h1,AS.pass_up hl2 _ _ ((AS.sem_con x _ hc d t).2 (.inr ⟨rfl,h2⟩))⟩
   | put u d=>
    obtain ⟨t,h1,h2⟩:=key (some d) _ hnew
    rw [Nat.one_shiftLeft,Nat.testBit_two_pow,decide_eq_true_eq] at h2
    exact ⟨some d,t,fun r e=>by cases e;exact hc,h1,AS.pass_up hl2 _ _ ((AS.sem_con x _ hc (some d) t).2 (.inr ⟨rfl,h2.symm⟩))⟩
def Con.thing (T:Nat):Con→Prop
 | .sub _ _=>True
 | .put t _=>t<T
theorem AS.pass_bound {T:Nat} {l:List Con} {x:AS} (hl:∀ c∈l,c.inn x.regs.length) (ht:∀ c∈l,c.thing T) (h:∀ o t,x.sem o t→t<T):∀ o t,(x.pass l).1.sem o t→t<T:=by
 refine AS.pass_in (S:=fun _ t=>t<T) hl (fun c hc=>?_) h
 have:=ht c hc
 cases c with
 | sub s d=>exact fun _ h=>h
 | put u d=>exact this
theorem AS.pass_more {T:Nat} {l:List Con} {x:AS} (hl:∀ c∈l,c.inn x.regs.length) (ht:∀ c∈l,c.thing T) (h:∀ o t,x.sem o t→t<T) (hn:(x.pass l).2=true) :
  x.cnt x.regs.length T<(x.pass l).1.cnt x.regs.length T:=by
 obtain ⟨o,t,h0,h1,h2⟩:=AS.pass_news hl hn
 refine qnh (fun c _ hc=>AS.pass_up hl c.1 c.2 hc) (qo6 h0 (AS.pass_bound hl ht h o t h2)) ?_ h2
 cases e:(x.get o).testBit t with
 | false=>rfl
 | true=>exact absurd e h1
structure AR.Ok (x:AR) (n T:Nat):Prop where
 rows:x.regs.length=n
 row:∀ l∈x.regs,l.length=T
 out:x.out.length=T
theorem AR.Ok.get {x:AR} {n T:Nat} (h:x.Ok n T) (o:Option Nat) (ho:∀ r,o=some r→r<n):(x.get o).length=T:=by
 cases o with
 | none=>exact h.out
 | some r=>
  have hr:r<x.regs.length:=by rw [h.rows];exact ho r rfl
  show (x.regs.getD r []).length=T
  rw [List.getD_eq_getElem?_getD,List.getElem?_eq_getElem hr]
  exact h.row _ (List.getElem_mem hr)
theorem AR.get_put (x:AR) (d o:Option Nat) (l:List Bool) (hd:∀ r,d=some r→r<x.regs.length):(x.put d l).get o=if o=d then l else x.get o:=by
 cases d with
 | none=>cases o <;> simp [AR.put,AR.get]
 | some r=>
  have hr:=hd r rfl
  cases o with
  | none=>simp [AR.put,AR.get]
  | some q=>
   by_cases e:q=r
   ·subst e;simp [AR.put,AR.get,hr]
   ·have e2:¬ (some q=some r):=fun h=>e (Option.some.inj h)
    have e3:¬ (r=q):=fun h=>e h.symm
    rw [if_neg e2]
    show (x.regs.set r _).getD q []=x.regs.getD q []
    rw [List.getD_eq_getElem?_getD,List.getElem?_set,if_neg e3,←List.getD_eq_getElem?_getD]
theorem AR.Ok.put {x:AR} {n T:Nat} (h:x.Ok n T) (d:Option Nat) {l:List Bool} (hl:l.length=T):(x.put d l).Ok n T:=by
 cases d with
 | none=>exact ⟨h.rows,h.row,hl⟩
 | some r=>
  refine ⟨by simpa [AR.put] using h.rows,fun k hk=>?_,h.out⟩
  rcases List.mem_or_eq_of_mem_set hk with h1|h1
  ·exact h.row k h1
  ·rw [h1];exact hl
theorem qas (a b:List Bool):(orL a b).length=a.length:=by simp [orL]
theorem qdh (a:List Bool) (n:Int):(qhy a n).length=a.length:=by simp [qhy]
theorem qzz (a b:List Bool) (i:Nat) (hi:i<a.length):(orL a b).getD i false=(a.getD i false || b.getD i false):=by
 simp [orL,hi]
theorem qrq (a:List Bool) (n:Int) (i:Nat) (hi:i<a.length):(qhy a n).getD i false=(a.getD i false || decide ((i:Int)=n)):=by
 simp [qhy,hi]
theorem AR.Ok.con {x:AR} {n T:Nat} (h:x.Ok n T) {c:Con} (hc:c.inn n):(x.con c).Ok n T:=by
 cases c with
 | sub s d=>exact h.put d ((qas _ _).trans (h.get d hc.2))
 | put u d=>exact h.put (some d) ((qdh _ _).trans (h.get (some d) (fun r e=>by cases e;exact hc)))
theorem AR.Ok.lt {x:AR} {n T:Nat} (h:x.Ok n T) {o:Option Nat} {t:Nat} (ho:∀ r,o=some r→r<n) (ht:x.sem o t):t<T:=by
 have hl:=h.get o ho
 apply Classical.byContradiction
 intro hn
 have:(x.get o)[t]?=none:=List.getElem?_eq_none (by omega)
 unfold AR.sem at ht
 rw [List.getD_eq_getElem?_getD,this] at ht
 cases ht
theorem AR.sem_con {x:AR} {n T:Nat} (h:x.Ok n T) {c:Con} (hc:c.inn n) (ht:c.thing T) (o:Option Nat) (ho:∀ r,o=some r→r<n) (t:Nat) :
  (x.con c).sem o t↔x.sem o t∨(match c with | .sub s d=>o=d∧x.sem s t | .put u d=>o=some d∧t=u):=by
 by_cases htT:t<T
 ·cases c with
  | sub s d=>
   unfold AR.sem AR.con
   rw [AR.get_put x d o _ (by rw [h.rows];exact hc.2)]
   by_cases e:o=d
   ·rw [if_pos e,qzz _ _ _ (by rw [h.get d hc.2];exact htT)];simp [e]
   ·rw [if_neg e];simp [e]
  | put u d=>
   have hd:∀ r,some d=some r→r<n:=fun r e=>by cases e;exact hc
   unfold AR.sem AR.con
   rw [AR.get_put x (some d) o _ (by rw [h.rows];exact hd)]
   by_cases e:o=some d
   ·rw [if_pos e,qrq _ _ _ (by rw [h.get (some d) hd];exact htT)]
    simp only [e,true_and,Bool.or_eq_true,decide_eq_true_eq,Int.ofNat_inj]
   ·rw [if_neg e];simp [e]
 ·have h1:¬ (x.con c).sem o t:=fun e=>htT ((h.con hc).lt ho e)
  have h2:¬ x.sem o t:=fun e=>htT (h.lt ho e)
  refine ⟨fun e=>absurd e h1,fun e=>?_⟩
  rcases e with e|e
  ·exact absurd e h2
  ·cases c with
   | sub s d=>exact absurd (h.lt hc.1 e.2) htT
   | put u d=>exact absurd (e.2 ▸ ht) htT
theorem AR.pass_append (l k:List Con) (x:AR):x.pass (l++k)=(x.pass l).pass k:=by unfold AR.pass;rw [List.foldl_append]
theorem AR.Ok.pass {n T:Nat} {l:List Con} {x:AR} (h:x.Ok n T) (hl:∀ c∈l,c.inn n):(x.pass l).Ok n T:=by
 induction l generalizing x with
 | nil=>exact h
 | cons c l ih=>exact ih (h.con (hl c (List.mem_cons_self ..))) (fun c' hc'=>hl c' (List.mem_cons_of_mem _ hc'))
theorem AR.pass_up {n T:Nat} {l:List Con} {x:AR} (h:x.Ok n T) (hl:∀ c∈l,c.inn n) (ht:∀ c∈l,c.thing T):∀ o t,(∀ r,o=some r→r<n)→x.sem o t→(x.pass l).sem o t:=by
 induction l generalizing x with
 | nil=>exact fun _ _ _ h=>h
 | cons c l ih=>
  have hc:=hl c (List.mem_cons_self ..)
  exact fun o t ho hh=>ih (h.con hc) (fun c' hc'=>hl c' (List.mem_cons_of_mem _ hc')) (fun c' hc'=>ht c' (List.mem_cons_of_mem _ hc')) o t ho ((AR.sem_con h hc (ht c (List.mem_cons_self ..)) o ho t).2 (.inl hh))
theorem AR.pass_in {n T:Nat} {l:List Con} {x:AR} {S:Option Nat→Nat→Prop} (h:x.Ok n T) (hl:∀ c∈l,c.inn n) (ht:∀ c∈l,c.thing T) (hS:∀ c∈l,c.holds S) (hx:∀ o t,(∀ r,o=some r→r<n)→x.sem o t→S o t) :
  ∀ o t,(∀ r,o=some r→r<n)→(x.pass l).sem o t→S o t:=by
 induction l generalizing x with
 | nil=>exact hx
 | cons c l ih=>
  have hc:=hl c (List.mem_cons_self ..)
  refine ih (h.con hc) (fun c' hc'=>hl c' (List.mem_cons_of_mem _ hc')) (fun c' hc'=>ht c' (List.mem_cons_of_mem _ hc')) (fun c' hc'=>hS c' (List.mem_cons_of_mem _ hc')) fun o t ho hh=>?_
  rcases (AR.sem_con h hc (ht c (List.mem_cons_self ..)) o ho t).1 hh with h1|h1
  ·exact hx o t ho h1
  ·have:=hS c (List.mem_cons_self ..)
   cases c with
   | sub s d=>obtain ⟨rfl,h2⟩:=h1;exact this t (hx s t hc.1 h2)
   | put u d=>obtain ⟨rfl,rfl⟩:=h1;exact this
theorem AR.pass_no {n T:Nat} {l:List Con} {x:AR} (h:x.Ok n T) (hl:∀ c∈l,c.inn n) (ht:∀ c∈l,c.thing T) (hno:∀ o t,(∀ r,o=some r→r<n)→(x.pass l).sem o t→x.sem o t) :
  ∀ c∈l,c.holds fun o t=>(∀ r,o=some r→r<n)∧x.sem o t:=by
 induction l generalizing x with
 | nil=>exact fun _ h=>by cases h
 | cons c l ih=>
  have hc:=hl c (List.mem_cons_self ..)
  have htc:=ht c (List.mem_cons_self ..)
  have hl2:∀ c'∈l,c'.inn n:=fun c' hc'=>hl c' (List.mem_cons_of_mem _ hc')
  have ht2:∀ c'∈l,c'.thing T:=fun c' hc'=>ht c' (List.mem_cons_of_mem _ hc')
  have up1:∀ o t,(∀ r,o=some r→r<n)→((x.con c).sem o t↔x.sem o t):=fun o t ho=>
   ⟨fun e=>hno o t ho (AR.pass_up (h.con hc) hl2 ht2 o t ho e),fun e=>(AR.sem_con h hc htc o ho t).2 (.inl e)⟩
  have IH:=ih (h.con hc) hl2 ht2 (fun o t ho e=>(up1 o t ho).2 (hno o t ho e))
  have hS:(fun o t=>(∀ r,o=some r→r<n)∧(x.con c).sem o t)=fun (o:Option Nat) (t:Nat)=>(∀ r,o=some r→r<n)∧x.sem o t:=by
   funext o t
   exact propext ⟨fun e=>⟨e.1,(up1 o t e.1).1 e.2⟩,fun e=>⟨e.1,(up1 o t e.1).2 e.2⟩⟩
  rw [hS] at IH
  intro c' hc'
  rcases List.mem_cons.1 hc' with rfl|hc'
  ·cases c' with
   | sub s d=>exact fun t e=>⟨hc.2,(up1 d t hc.2).1 ((AR.sem_con h hc htc d hc.2 t).2 (.inr ⟨rfl,e.2⟩))⟩
   | put u d=>
    have hd:∀ r,some d=some r→r<n:=fun r e=>by cases e;exact hc
    exact ⟨hd,(up1 _ u hd).1 ((AR.sem_con h hc htc (some d) hd u).2 (.inr ⟨rfl,rfl⟩))⟩
  ·exact IH c' hc'
end
section
open Go.ChangeShapes Go.WideShapes Go.ChangeAt Go.RowKit
def qr5 (b:Bk):Bool:=decide (b.ins.length≤60) && b.ins.all qot
def prF (p:Pr):Bool:=decide (p.blks.length≤40) && (decide (p.objs.length≤20) && p.blks.all qr5)
def qia (m:Md):Bool:=decide (m.procs.length≤6) && (decide (m.globs.length≤20) && (decide (m.data.length≤20) && m.procs.all prF))
theorem qcu {α:Type} [Inhabited α] (f:α→Bool) (l:List α) (k:Nat) (h:k<l.length) (h1:(l.take k).all f=true) (h2:f (l.getD k default)=true):(l.take (k+1)).all f=true:=by
 rw [List.take_succ_eq_append_getElem h,List.all_append,h1]
 have:f l[k]=true:=by simpa [List.getD,h] using h2
 simp [this]
theorem qex {α:Type} [Inhabited α] (f:α→Bool) (l:List α) (k:Nat) (h:k<l.length) (h2:f (l.getD k default)=false):l.all f=false:=by
 rw [List.all_eq_false]
 exact ⟨l.getD k default,by simp [List.getD,h],by rw [h2];decide⟩
theorem qcx.at {w:World} {a:Option Addr} {n c:Nat} {l:List Pr} (h:qcx w (.slice a n c) l):n=l.length∧∀ k,k<l.length→∃ b o vo vb,a=some ⟨b,o,none⟩∧qce w vo (l.getD k default).objs∧qbl w vb (l.getD k default).blks∧
  w.cell? ⟨b,o+k*6+4,none⟩=some vo∧w.cell? ⟨b,o+k*6+5,none⟩=some vb:=by
 obtain ⟨a',c',e,h1,h2,hc⟩:=h
 simp only [Value.slice.injEq] at e
 obtain ⟨rfl,rfl,rfl⟩:=e
 refine ⟨rfl,fun k hk=>?_⟩
 obtain ⟨b,o,rfl,h0,h1,h2,h3,⟨vo,h4,ho⟩,⟨vb,h5,hb⟩⟩:=hc k hk
 exact ⟨b,o,vo,vb,rfl,ho,hb,h4,h5⟩
theorem qbl.at {w:World} {a:Option Addr} {n c:Nat} {l:List Bk} (h:qbl w (.slice a n c) l):n=l.length∧∀ k,k<l.length→∃ b o vi,a=some ⟨b,o,none⟩∧qbd w vi (l.getD k default).ins∧w.cell? ⟨b,o+k*5,none⟩=some vi∧
  w.cell? ⟨b,o+k*5+1,none⟩=some (.int .i64 (l.getD k default).fin)∧w.cell? ⟨b,o+k*5+2,none⟩=some (.int .i64 (l.getD k default).a)∧w.cell? ⟨b,o+k*5+3,none⟩=some (.int .i64 (l.getD k default).to)∧w.cell? ⟨b,o+k*5+4,none⟩=some (.int .i64 (l.getD k default).els):=by
 obtain ⟨a',c',e,h1,h2,hc⟩:=h
 simp only [Value.slice.injEq] at e
 obtain ⟨rfl,rfl,rfl⟩:=e
 refine ⟨rfl,fun k hk=>?_⟩
 obtain ⟨b,o,rfl,⟨vi,h0,hi⟩,h1,h2,h3,h4⟩:=hc k hk
 exact ⟨b,o,vi,rfl,hi,by simpa using h0,h1,h2,h3,h4⟩
theorem q1n (m:Md) (v:Value) (w:World) (hv:MdV w v m) (h:¬ (m.procs.length≤6∧m.globs.length≤20∧m.data.length≤20)) :
  Calls Try.prog 22 #[v] w fun e w'=>e=.returned (.bool (qia m))∧Below w.heap.size w w':=by
 obtain ⟨vg,vd,vp,rfl,⟨ag,cg,rfl,hg1,hg2, -⟩,⟨ad,cd,rfl,hd1,hd2, -⟩,⟨ap,cp,rfl,hp1,hp2, -⟩⟩:=hv
 unfold maxLen at hg2 hd2 hp2
 have HF:Hid (qia m=false):=by
  show _=_
  unfold qia
  by_cases h1:m.procs.length≤6
  ·by_cases h2:m.globs.length≤20
   ·rw [qko (fun h3=>h ⟨h1,h2,h3⟩)];simp
   ·rw [qko h2];simp
  ·rw [qko h1];rfl
 by_cases h1:m.procs.length≤6
 ·have e1:decide ((6:Int)<(m.procs.length:Int))=false:=qko (by omega)
  by_cases h2:m.globs.length≤20
  ·have e2:decide ((20:Int)<(m.globs.length:Int))=false:=qko (by omega)
   have h3:¬ m.data.length≤20:=fun h3=>h ⟨h1,h2,h3⟩
   have e3:decide ((20:Int)<(m.data.length:Int))=true:=qkn (by omega)
   clear h
   go_enter Try.func22,Try.ntmps22
   go_wp2_with fail
   go_ret
   exact ⟨qah HF.out.symm,qaa _ _⟩
  ·have e2:decide ((20:Int)<(m.globs.length:Int))=true:=qkn (by omega)
   clear h
   go_enter Try.func22,Try.ntmps22
   go_wp2_with fail
   go_ret
   exact ⟨qah HF.out.symm,qaa _ _⟩
 ·have e1:decide ((6:Int)<(m.procs.length:Int))=true:=qkn (by omega)
  clear h
  go_enter Try.func22,Try.ntmps22
  go_wp2_with fail
  go_ret
  exact ⟨qah HF.out.symm,qaa _ _⟩
theorem qx7 (m:Md) (v:Value) (w:World) (hv:MdV w v m) (h1:m.procs.length≤6) (h2:m.globs.length≤20) (h3:m.data.length≤20) :
  Calls Try.prog 22 #[v] w fun e w'=>e=.returned (.bool (qia m))∧Below w.heap.size w w':=by
 obtain ⟨vg,vd,vp,rfl,⟨ag,cg,rfl,hg1,hg2, -⟩,⟨ad,cd,rfl,hd1,hd2, -⟩,hp⟩:=hv
 have hp':=hp
 obtain ⟨ap,cp,rfl,hp1,hp2, -⟩:=hp'
 have HP:=qkm (qcx.at hp).2
 clear hp
 unfold maxLen at hg2 hd2 hp2
 have HF:Hid (qia m=m.procs.all prF):=by
  show _=_
  unfold qia;rw [qkn h1,qkn h2,qkn h3];rfl
 have e1:decide ((6:Int)<(m.procs.length:Int))=false:=qko (by omega)
 have e2:decide ((20:Int)<(m.globs.length:Int))=false:=qko (by omega)
 have e3:decide ((20:Int)<(m.data.length:Int))=false:=qko (by omega)
 go_enter Try.func22,Try.ntmps22
 go_wp2_with fail
 clear e1 e2 e3 h2 h3
 obtain ⟨W0,hW0⟩:∃ W0,W0=(w.alloc (.cells #[.slice ag m.globs.length cg,.slice ad m.data.length cd,.slice ap m.procs.length cp,.int .i64 m.main] 26)):=⟨_,rfl⟩
 have hz0:W0.heap.size=w.heap.size+1:=by rw [hW0];simp
 have HBW:Hid (Below w.heap.size w W0):=by rw [hW0];exact qaa w _
 have HX:Hid (∀ w',Below (w.heap.size+1) W0 w'→w'.cell? ⟨w.heap.size,2,none⟩=some (.slice ap m.procs.length cp)):=fun w' hb=>(hb.cell (p:=⟨w.heap.size,2,none⟩) (Nat.lt_succ_self _)).trans (by rw [hW0,qab (heap_alloc_new w _)];rfl)
 have HE:Hid (∀ w',Below (w.heap.size+1) W0 w'→Ext w w'):=fun w' hb=>(show Ext w W0 by rw [hW0];exact Ext.alloc w _).trans (Ext.below (hb.mono (by omega)))
 have HR:Hid (∀ w',Below (w.heap.size+1) W0 w'→Below w.heap.size w w'):=fun w' hb=>HBW.out.trans (hb.mono (by omega))
 have hB0:Hid (Below (w.heap.size+1) W0 W0):=Below.refl _ _
 rw [←hW0]
 clear hW0 HBW
 go_loopw [3] (fun i wr=>∃ k:Nat,k≤m.procs.length∧i=.int .i64 (k:Int)∧Hid (Below (w.heap.size+1) W0 wr)∧Hid ((m.procs.take k).all prF=true)) (fun i _=>m.procs.length-(intOf i).toNat)
 case atStart=>exact ⟨0,Nat.zero_le _,rfl,hB0,rfl⟩
 case round=>
  clear hB0
  obtain ⟨k,hk,rfl,hB,HA⟩:=hrel
  have q2:=HX.out wr hB.out
  by_cases hlt:k<m.procs.length
  ·obtain ⟨bp,op,vo,vb,rfl,hvo,hvb,d4,d5⟩:=HP.out k hlt
   have e5b:=d5
   replace d4:=HE.out wr hB.out _ _ d4
   replace d5:=HE.out wr hB.out _ _ d5
   have hY:=qcu prF m.procs k hlt HA.out
   have hZ:=qex prF m.procs k hlt
   generalize m.procs.getD k default=P at *
   obtain ⟨ao,co,rfl,ho1,ho2, -⟩:=hvo
   have hvb':=hvb
   obtain ⟨ab,cb,rfl,hb1,hb2, -⟩:=hvb'
   have HBk:=qkm (qbl.at hvb).2
   clear hvb
   unfold maxLen at ho2 hb2
   by_cases h4:P.blks.length≤40
   ·have e4:decide ((40:Int)<(P.blks.length:Int))=false:=qko (by omega)
    by_cases h5:P.objs.length≤20
    ·have e5:decide ((20:Int)<(P.objs.length:Int))=false:=qko (by omega)
     have HPF:Hid (prF P=P.blks.all qr5):=by
      show _=_
      unfold prF;rw [qkn h4,qkn h5];rfl
     have hY:=qkm hY
     have hZ:=qkm hZ
     have D5:=qkm e5b
     go_wp2_with fail
     clear e4 e5 h5 q2 d4 d5
     go_loopw [4] (fun i wr=>∃ j:Nat,j≤P.blks.length∧i=.int .i64 (j:Int)∧Hid (Below (w.heap.size+1) W0 wr)∧Hid ((P.blks.take j).all qr5=true)) (fun i _=>P.blks.length-(intOf i).toNat)
     case atStart=>exact ⟨0,Nat.zero_le _,rfl,hB,rfl⟩
     case round=>
      clear hB
      obtain ⟨j,hj,rfl,hB,HA2⟩:=hrel
      have q2:=HX.out wr hB.out
      have d5:=HE.out wr hB.out _ _ D5.out
      by_cases hlj:j<P.blks.length
      ·obtain ⟨b2,o2,vi,rfl,hvi,c0, -⟩:=HBk.out j hlj
       have C0:=qkm c0
       replace c0:=HE.out wr hB.out _ _ c0
       have hY2:=qkm (qcu qr5 P.blks j hlj HA2.out)
       have hZ2:=qkm (qex qr5 P.blks j hlj)
       generalize P.blks.getD j default=K at *
       have hvi':=hvi
       obtain ⟨ai,ci,rfl,hi1,hi2, -⟩:=hvi'
       have HIn:=qkm (qbd.at hvi).2
       clear hvi
       unfold maxLen at hi2
       by_cases h6:K.ins.length≤60
       ·have e6:decide ((60:Int)<(K.ins.length:Int))=false:=qko (by omega)
        have HKF:Hid (qr5 K=K.ins.all qot):=by
         show _=_
         unfold qr5;rw [qkn h6];rfl
        go_wp2_with fail
        clear e6 q2 d5 c0
        go_loopw [5] (fun i wr=>∃ n:Nat,n≤K.ins.length∧i=.int .i64 (n:Int)∧Hid (Below (w.heap.size+1) W0 wr)∧Hid ((K.ins.take n).all qot=true)) (fun i _=>K.ins.length-(intOf i).toNat)
        case atStart=>exact ⟨0,Nat.zero_le _,rfl,hB,rfl⟩
        case round=>
         clear hB
         obtain ⟨n,hn,rfl,hB,HA3⟩:=hrel
         have q2:=HX.out wr hB.out
         have d5:=HE.out wr hB.out _ _ D5.out
         have c0:=HE.out wr hB.out _ _ C0.out
         by_cases hln:n<K.ins.length
         ·obtain ⟨b3,o3,va,rfl, -,hva,x0,x1,x2,x3,x4,x5,x6,x7,x8,x9,x10⟩:=HIn.out n hln
          replace x0:=HE.out wr hB.out _ _ x0
          replace x1:=HE.out wr hB.out _ _ x1
          replace x2:=HE.out wr hB.out _ _ x2
          replace x3:=HE.out wr hB.out _ _ x3
          replace x4:=HE.out wr hB.out _ _ x4
          replace x5:=HE.out wr hB.out _ _ x5
          replace x6:=HE.out wr hB.out _ _ x6
          replace x7:=HE.out wr hB.out _ _ x7
          replace x8:=HE.out wr hB.out _ _ x8
          replace x9:=HE.out wr hB.out _ _ x9
          replace x10:=HE.out wr hB.out _ _ x10
          have hY3:=qcu qot K.ins n hln HA3.out
          have hZ3:=qex qot K.ins n hln
          generalize K.ins.getD n default=I at *
          have hva':=hva
          obtain ⟨aa,ca,rfl,ha1,ha2, -⟩:=hva'
          unfold maxLen at ha2
          have EI:Hid (Calls Try.prog 47 #[.agg #[.int .i64 I.op,.int .i64 I.d,.int .i64 I.a,.int .i64 I.b,.int .i64 I.fn,.int .i64 I.obj,.int .i64 I.off,.int .i64 I.size,.int .u32 I.num,.slice aa I.args.length ca,.bool I.log]] wr fun e w'=>e=.returned (.bool (qot I))∧Below wr.heap.size wr w'):=q2w I _ wr ⟨_,rfl,hva.ext (HE.out wr hB.out)⟩ (by omega)
          clear hva
          have hBs:w.heap.size+1≤wr.heap.size:=by have:=hB.out.size;omega
          cases hx:qot I
          ·rw [hx] at EI
           have HFf:Hid (qia m=false):=by
            show _=_
            rw [HF.out,hZ.out (by rw [HPF.out,hZ2.out (by rw [HKF.out,hZ3 hx])])]
           clear hY3 hZ3 hx
           go_wp2_with (go_at_call 47;refine EI.out.mono ?_;rintro e w1 ⟨rfl,hb1⟩;have hb1:=qkm hb1)
           go_ret
           exact ⟨qah HFf.out.symm,HR.out _ (hB.out.trans (hb1.out.mono hBs))⟩
          ·rw [hx] at EI
           have HA4:=qkm (hY3 hx)
           clear hY3 hZ3 hx
           go_wp2_with (go_at_call 47;refine EI.out.mono ?_;rintro e w1 ⟨rfl,hb1⟩;have hb1:=qkm hb1)
           go_roundw
           case rel=>exact ⟨n+1,by omega,by go_num,hB.out.trans (hb1.out.mono hBs),HA4⟩
           case measure=>simp [intOf];omega
         ·have HK1:Hid ((P.blks.take (j+1)).all qr5=true):=hY2.out (by rw [HKF.out];have:=HA3.out;rwa [List.take_of_length_le (by omega)] at this)
          go_wp2_with fail
          go_roundw
          case rel=>exact ⟨j+1,by omega,by go_num,hB,HK1⟩
          case measure=>simp [intOf];omega
       ·have e6:decide ((60:Int)<(K.ins.length:Int))=true:=qkn (by omega)
        have HFf:Hid (qia m=false):=by
         show _=_
         rw [HF.out,hZ.out (by rw [HPF.out,hZ2.out (by unfold qr5;rw [qko h6];rfl)])]
        go_wp2_with fail
        go_ret
        exact ⟨qah HFf.out.symm,HR.out _ hB.out⟩
      ·have HP1:Hid ((m.procs.take (k+1)).all prF=true):=hY.out (by rw [HPF.out];have:=HA2.out;rwa [List.take_of_length_le (by omega)] at this)
       go_wp2_with fail
       go_roundw
       case rel=>exact ⟨k+1,by omega,by go_num,hB,HP1⟩
       case measure=>simp [intOf];omega
    ·have e5:decide ((20:Int)<(P.objs.length:Int))=true:=qkn (by omega)
     have HFf:Hid (qia m=false):=by
      show _=_
      rw [HF.out,hZ (by unfold prF;rw [qkn h4,qko h5];rfl)]
     clear hY hZ
     go_wp2_with fail
     go_ret
     exact ⟨qah HFf.out.symm,HR.out _ hB.out⟩
   ·have e4:decide ((40:Int)<(P.blks.length:Int))=true:=qkn (by omega)
    have HFf:Hid (qia m=false):=by
     show _=_
     rw [HF.out,hZ (by unfold prF;rw [qko h4];rfl)]
    clear hY hZ
    go_wp2_with fail
    go_ret
    exact ⟨qah HFf.out.symm,HR.out _ hB.out⟩
  ·have HFt:Hid (qia m=true):=by
    show _=_
    rw [HF.out];have:=HA.out;rwa [List.take_of_length_le (by omega)] at this
   go_wp2_with fail
   go_ret
   exact ⟨qah HFt.out.symm,HR.out _ hB.out⟩
theorem q2c (m:Md) (v:Value) (w:World) (hv:MdV w v m) :
  Calls Try.prog 22 #[v] w fun e w'=>e=.returned (.bool (qia m))∧Below w.heap.size w w':=by
 by_cases h:m.procs.length≤6∧m.globs.length≤20∧m.data.length≤20
 ·exact qx7 m v w hv h.1 h.2.1 h.2.2
 ·exact q1n m v w hv h
end
end Go.Proofs.Ytmcddolkpcgddaa
