/-
Which instructions and stores nobody asks for, as plain data; places of which something holds, rising.
-/
import Derived.Test.YtkhfddodmjnecaaGreatDoorZFoldDoes05
import Derived.Laws.Bits64b
set_option linter.all false
namespace Go.Proofs.YtkhfddodmjnecaaGreatDoor
section
open Go Go.RowKit
theorem look_set (l:List Int) (n x v:Int) (h:n.toNat<l.length):(l.set n.toNat v).getD x.toNat 0=if x.toNat=n.toNat then v else l.getD x.toNat 0:=by
 simp only [List.getD,List.getElem?_set]
 by_cases e:n.toNat=x.toNat
 ·rw [if_pos e,if_pos h,if_pos e.symm];rfl
 ·rw [if_neg e,if_neg (Ne.symm e)]
theorem look_enter {s:S3} {n:Int} (h:n.toNat<s.st.length) (x:Int):(s.enter n).look x=if x.toNat=n.toNat then 1 else s.look x:=look_set s.st n x 1 h
theorem look_leave {s:S3} {n:Int} (h:n.toNat<s.st.length) (x:Int):(s.leave n).look x=if x.toNat=n.toNat then 2 else s.look x:=look_set s.st n x 2 h
theorem look_loop (s:S3) (n t x:Int):(s.loop n t).look x=s.look x:=rfl
structure DI (p:Pr) (s:S3):Prop where
 len:s.st.length=p.blks.length
 tri:∀ x,s.look x=0∨s.look x=1∨s.look x=2
 bk:∀ y t,(y,t)∈s.back→0≤y∧s.look y≠0
 od:∀ x,x∈s.ord↔0≤x∧x<p.blks.length∧s.look x=2
 nd:s.ord.Nodup
 ed:∀ i,i<s.ord.length→∀ t∈outsP p (s.ord.getD i 0).toNat,((s.ord.getD i 0,t)∈s.back↔t ∉ s.ord.take i)
 out:∀ x∈s.ord,∀ t∈outsP p x.toNat,s.look t≠0
structure DR (E:Int→Prop) (s s':S3):Prop where
 grey:∀ x,s'.look x=1→s.look x=1
 keep:∀ x,s.look x≠0→s'.look x=s.look x
 ord:∃ l,s'.ord=s.ord++l
 back1:∀ e∈s.back,e∈s'.back
 back2:∀ y t,(y,t)∈s'.back→(y,t)∈s.back∨s.look y=0∨E y
theorem DR.refl (E:Int→Prop) (s:S3):DR E s s:=⟨fun _ h=>h,fun _ _=>rfl,⟨[],by simp⟩,fun _ h=>h,fun _ _ h=>.inl h⟩
theorem DR.trans {E:Int→Prop} {s s' s'':S3} (h:DR E s s') (k:DR E s' s''):DR E s s'':=by
 obtain ⟨l,hl⟩:=h.ord
 obtain ⟨l',hl'⟩:=k.ord
 refine ⟨fun x hx=>h.grey x (k.grey x hx),fun x hx=>?_,⟨l++l',by rw [hl',hl,List.append_assoc]⟩,fun e he=>k.back1 e (h.back1 e he),fun y t hy=>?_⟩
 ·rw [k.keep x (by rw [h.keep x hx];exact hx),h.keep x hx]
 ·rcases k.back2 y t hy with hy|hy|hy
  ·exact h.back2 y t hy
  ·right;left
   rcases Decidable.em (s.look y=0) with e|e
   ·exact e
   ·rw [h.keep y e] at hy;exact absurd hy e
  ·exact .inr (.inr hy)
theorem DR.weak {E:Int→Prop} {s s':S3} (h:DR (fun _=>False) s s'):DR E s s' :=
 ⟨h.grey,h.keep,h.ord,h.back1,fun y t hy=>by
   rcases h.back2 y t hy with k|k|k
   ·exact .inl k
   ·exact .inr (.inl k)
   ·exact k.elim⟩
theorem DI.enter {p:Pr} {s:S3} {n:Int} (h:DI p s) (h0:0≤n) (h1:n<p.blks.length) (hn:s.look n=0):DI p (s.enter n):=by
 have hl:n.toNat<s.st.length:=by rw [h.len];omega
 refine ⟨by rw [enter_len];exact h.len,fun x=>?_,fun y t hy=>⟨(h.bk y t hy).1,?_⟩,fun x=>?_,h.nd,h.ed,fun x hx t ht=>?_⟩
 ·rw [look_enter hl];split
  ·exact .inr (.inl rfl)
  ·exact h.tri x
 ·rw [look_enter hl];split
  ·decide
  ·exact (h.bk y t hy).2
 ·rw [look_enter hl]
  show x∈s.ord↔_
  rw [h.od]
  by_cases e:x.toNat=n.toNat
  ·rw [if_pos e]
   constructor
   ·rintro ⟨a,b,c⟩
    obtain rfl:x=n:=by omega
    omega
   ·rintro ⟨-, -,c⟩;exact absurd c (by decide)
  ·rw [if_neg e]
 ·rw [look_enter hl];split
  ·decide
  ·exact h.out x hx t ht
theorem mem_snoc_pair {l:List (Int×Int)} {y t n u:Int}:(y,t)∈l++[(n,u)]↔(y,t)∈l∨y=n∧t=u:=by
 rw [List.mem_append,List.mem_singleton,Prod.mk.injEq]
theorem DI.loop {p:Pr} {s:S3} {n t:Int} (h:DI p s) (h0:0≤n) (hn:s.look n=1):DI p (s.loop n t):=by
 have hno:n ∉ s.ord:=fun hm=>by have:=((h.od n).1 hm).2.2;omega
 refine ⟨h.len,h.tri,fun y u hy=>?_,h.od,h.nd,fun i hi u hu=>?_,h.out⟩
 ·rcases mem_snoc_pair.1 hy with hy|⟨rfl, -⟩
  ·exact h.bk y u hy
  ·exact ⟨h0,by rw [look_loop,hn];decide⟩
 ·refine Iff.trans ?_ (h.ed i hi u hu)
  show (s.ord.getD i 0,u)∈s.back++[(n,t)]↔_
  rw [mem_snoc_pair]
  refine ⟨fun hx=>hx.resolve_right fun hx=>hno ?_,.inl⟩
  have hi':i<s.ord.length:=hi
  rw [←hx.1]
  simp [List.getD,hi']
theorem foldl_all (p:Pr) (f:Nat) (IH:∀ (n:Int) (s:S3),DI p s→0≤n→n<p.blks.length→s.look n=0→s.zeros≤f→DI p (rI p f n s)∧DR (fun _=>False) s (rI p f n s)∧(rI p f n s).look n=2) (n:Int) (h0:0≤n) :
  ∀ (l:List Int) (s:S3),(∀ t∈l,0≤t∧t<p.blks.length)→DI p s→s.look n=1→s.zeros≤f→(∀ t,(n,t)∈s.back→s.look t=1)→
   DI p (l.foldl (hI p f n) s)∧DR (·=n) s (l.foldl (hI p f n) s)∧(∀ t,(n,t)∈(l.foldl (hI p f n) s).back→(l.foldl (hI p f n) s).look t=1)∧
    ∀ t∈l,(l.foldl (hI p f n) s).look t≠0∧((l.foldl (hI p f n) s).look t=1→(n,t)∈(l.foldl (hI p f n) s).back):=by
 intro l
 induction l with
 | nil=>intro s _ h _ _ hG;exact ⟨h,DR.refl _ _,hG,fun t ht=>absurd ht List.not_mem_nil⟩
 | cons t l ihl=>
  intro s hin h hn hz hG
  have ht:=hin t List.mem_cons_self
  have step:DI p (hI p f n s t)∧DR (·=n) s (hI p f n s t)∧(∀ u,(n,u)∈(hI p f n s t).back→(hI p f n s t).look u=1)∧(hI p f n s t).look t≠0∧((hI p f n s t).look t=1→(n,t)∈(hI p f n s t).back):=by
   unfold hI
   split
   ·rename_i e
    refine ⟨h.loop h0 hn,⟨fun x hx=>hx,fun x _=>rfl,⟨[],by simp [S3.loop]⟩,fun e he=>List.mem_append_left _ he,fun y u hy=>?_⟩,fun u hu=>?_,by rw [look_loop,e];decide,fun _=>mem_snoc_pair.2 (.inr ⟨rfl,rfl⟩)⟩
    ·rcases mem_snoc_pair.1 hy with hy|⟨rfl, -⟩
     ·exact .inl hy
     ·exact .inr (.inr rfl)
    ·rcases mem_snoc_pair.1 hu with hu|⟨-,rfl⟩
     ·exact hG u hu
     ·exact e
   ·split
    ·rename_i e
     obtain ⟨a,b,c⟩:=IH t s h ht.1 ht.2 e hz
     refine ⟨a,b.weak,fun u hu=>?_,by rw [c];decide,fun k=>by rw [c] at k;exact absurd k (by decide)⟩
     rcases b.back2 n u hu with hu|hu|hu
     ·rw [b.keep u (by rw [hG u hu];decide)];exact hG u hu
     ·rw [hn] at hu;exact absurd hu (by decide)
     ·exact hu.elim
    ·exact ⟨h,DR.refl _ _,hG,‹_›,fun k=>absurd k ‹_›⟩
  obtain ⟨a,b,c,d1,d2⟩:=step
  have hn':(hI p f n s t).look n=1:=by rw [b.keep n (by rw [hn];decide),hn]
  obtain ⟨a',b',c',d'⟩:=ihl (hI p f n s t) (fun u hu=>hin u (List.mem_cons_of_mem _ hu)) a hn' (Nat.le_trans (hI_zeros p f n s t) hz) c
  rw [List.foldl_cons]
  refine ⟨a',b.trans b',c',fun u hu=>?_⟩
  rcases List.mem_cons.1 hu with rfl|hu
  ·rw [b'.keep u d1]
   exact ⟨d1,fun k=>b'.back1 _ (d2 k)⟩
  ·exact d' u hu
theorem getD_append_lt (l l':List Int) (i:Nat) (h:i<l.length):(l++l').getD i 0=l.getD i 0:=by simp [List.getD,List.getElem?_append,h]
theorem DI.leave {p:Pr} {s:S3} {n:Int} (h:DI p s) (h0:0≤n) (h1:n<p.blks.length) (hn:s.look n=1) (hG:∀ t,(n,t)∈s.back→s.look t=1) (ho:∀ t∈outsP p n.toNat,s.look t≠0∧(s.look t=1→(n,t)∈s.back)):DI p (s.leave n):=by
 have hl:n.toNat<s.st.length:=by rw [h.len];omega
 have hno:n ∉ s.ord:=fun hm=>by have:=((h.od n).1 hm).2.2;omega
 refine ⟨by rw [leave_len];exact h.len,fun x=>?_,fun y t hy=>⟨(h.bk y t hy).1,?_⟩,fun x=>?_,?_,fun i hi t ht=>?_,fun x hx t ht=>?_⟩
 ·rw [look_leave hl];split
  ·exact .inr (.inr rfl)
  ·exact h.tri x
 ·rw [look_leave hl];split
  ·decide
  ·exact (h.bk y t hy).2
 ·rw [look_leave hl]
  show x∈s.ord++[n]↔_
  rw [List.mem_append,List.mem_singleton,h.od]
  by_cases e:x.toNat=n.toNat
  ·rw [if_pos e]
   constructor
   ·rintro (⟨a,b,c⟩ | rfl)
    ·exact ⟨a,b,rfl⟩
    ·exact ⟨h0,h1,rfl⟩
   ·rintro ⟨a,b, -⟩;right;omega
  ·rw [if_neg e]
   constructor
   ·rintro (k | rfl)
    ·exact k
    ·exact absurd rfl e
   ·exact .inl
 ·show (s.ord++[n]).Nodup
  rw [List.nodup_append]
  refine ⟨h.nd,by simp,fun a ha b hb=>?_⟩
  rw [List.mem_singleton] at hb
  subst hb
  rintro rfl
  exact hno ha
 ·have hi:i<(s.ord++[n]).length:=hi
  rw [List.length_append,List.length_singleton] at hi
  show ((s.ord++[n]).getD i 0,t)∈s.back↔t ∉ (s.ord++[n]).take i
  have ht:t∈outsP p ((s.ord++[n]).getD i 0).toNat:=ht
  by_cases e:i<s.ord.length
  ·rw [getD_append_lt _ _ _ e] at ht ⊢
   rw [List.take_append_of_le_length (by omega)]
   exact h.ed i e t ht
  ·obtain rfl:i=s.ord.length:=by omega
   have e2:(s.ord++[n]).getD s.ord.length 0=n:=by simp [List.getD]
   rw [e2] at ht ⊢
   rw [List.take_append_of_le_length (Nat.le_refl _),List.take_length]
   have hr:=outsP_mem ht
   constructor
   ·intro hb hm
    have:=hG t hb
    have:=((h.od t).1 hm).2.2
    omega
   ·intro hm
    have h2:=(ho t ht)
    rcases h.tri t with k|k|k
    ·exact absurd k h2.1
    ·exact h2.2 k
    ·exact absurd ((h.od t).2 ⟨hr.1,hr.2,k⟩) hm
 ·rw [look_leave hl]
  split
  ·decide
  ·rcases List.mem_append.1 (show x∈s.ord++[n] from hx) with hx|hx
   ·exact h.out x hx t ht
   ·rw [List.mem_singleton] at hx
    subst hx
    exact (ho t ht).1
theorem rI_all (p:Pr):∀ (f:Nat) (n:Int) (s:S3),DI p s→0≤n→n<p.blks.length→s.look n=0→s.zeros≤f→DI p (rI p f n s)∧DR (fun _=>False) s (rI p f n s)∧(rI p f n s).look n=2:=by
 intro f
 induction f with
 | zero=>intro n s h h0 h1 hn hz;have:=zeros_enter s n (by rw [h.len];omega) hn;omega
 | succ f ih=>
  intro n s h h0 h1 hn hz
  have hl:n.toNat<s.st.length:=by rw [h.len];omega
  have hz1:=zeros_enter s n hl hn
  have he:=h.enter h0 h1 hn
  have hen:(s.enter n).look n=1:=by rw [look_enter hl,if_pos rfl]
  obtain ⟨a,b,c,d⟩:=foldl_all p f ih n h0 (outsP p n.toNat) (s.enter n) (fun t ht=>outsP_mem ht) he hen (by omega) (fun t ht=>absurd hn (h.bk n t ht).2)
  have hn1:((outsP p n.toNat).foldl (hI p f n) (s.enter n)).look n=1:=by rw [b.keep n (by rw [hen];decide),hen]
  have hl1:n.toNat<((outsP p n.toNat).foldl (hI p f n) (s.enter n)).st.length:=by rw [a.len];omega
  rw [rI_succ]
  refine ⟨a.leave h0 h1 hn1 c d,⟨fun x hx=>?_,fun x hx=>?_,?_,fun e he=>b.back1 e he,fun y t hy=>?_⟩,by rw [look_leave hl1,if_pos rfl]⟩
  ·rw [look_leave hl1] at hx
   split at hx
   ·exact absurd hx (by decide)
   ·have:=b.grey x hx
    rw [look_enter hl,if_neg ‹_›] at this
    exact this
  ·have e:¬ x.toNat=n.toNat:=fun e=>hx (by unfold S3.look at *;rw [e];exact hn)
   rw [look_leave hl1,if_neg e,b.keep x (by rw [look_enter hl,if_neg e];exact hx),look_enter hl,if_neg e]
  ·obtain ⟨l,hl⟩:=b.ord
   exact ⟨l++[n],by show _++[n]=_;rw [hl,List.append_assoc];rfl⟩
  ·rcases b.back2 y t hy with k|k|rfl
   ·exact .inl k
   ·rw [look_enter hl] at k
    split at k
    ·exact absurd k (by decide)
    ·exact .inr (.inl k)
   ·exact .inr (.inl hn)
theorem wk0_DI (p:Pr):DI p (wk0 p):=by
 have hl:∀ x,(wk0 p).look x=0:=fun x=>by
  unfold wk0 S3.look;simp only [List.getD,List.getElem?_replicate];split <;> rfl
 refine ⟨by simp [wk0],fun x=>.inl (hl x),fun y t hy=>absurd hy List.not_mem_nil,fun x=>⟨fun hx=>absurd hx List.not_mem_nil,fun hx=>?_⟩,List.nodup_nil,fun i hi=>absurd hi (by simp [wk0]),fun x hx=>absurd hx List.not_mem_nil⟩
 rw [hl] at hx;exact absurd hx.2.2 (by decide)
theorem wk0_look (p:Pr) (x:Int):(wk0 p).look x=0:=by
 unfold wk0 S3.look;simp only [List.getD,List.getElem?_replicate];split <;> rfl
theorem wkD_all (p:Pr) (hp:0<p.blks.length):DI p (wkD p)∧DR (fun _=>False) (wk0 p) (wkD p)∧(wkD p).look 0=2 :=
 rI_all p p.blks.length 0 (wk0 p) (wk0_DI p) (Int.le_refl _) (by omega) (wk0_look p 0) (by simp [S3.zeros,wk0,List.count_replicate_self])
theorem wkD_last (p:Pr) (hp:0<p.blks.length):∃ l,(wkD p).ord=l++[0]:=by
 unfold wkD
 obtain ⟨n,hn⟩:∃ n,p.blks.length=n+1:=⟨p.blks.length-1,by omega⟩
 rw [hn,rI_succ]
 exact ⟨_,rfl⟩
theorem wkD_two (p:Pr) (hp:0<p.blks.length) (x:Int):(wkD p).look x=0∨(wkD p).look x=2:=by
 obtain ⟨a,b, -⟩:=wkD_all p hp
 rcases a.tri x with k|k|k
 ·exact .inl k
 ·have:=b.grey x k;rw [wk0_look] at this;exact absurd this (by decide)
 ·exact .inr k
theorem ord_closed (p:Pr) (hp:0<p.blks.length) {x t:Int} (hx:x∈(wkD p).ord) (ht:t∈outsP p x.toNat):t∈(wkD p).ord:=by
 have D:=(wkD_all p hp).1
 have h1:=D.out x hx t ht
 have h2:=outsP_mem ht
 refine (D.od t).2 ⟨h2.1,h2.2,?_⟩
 rcases wkD_two p hp t with k|k
 ·exact absurd k h1
 ·exact k
theorem ord_zero (p:Pr) (hp:0<p.blks.length):(0:Int)∈(wkD p).ord:=by
 obtain ⟨l,h⟩:=wkD_last p hp
 rw [h];simp
end
section
open Go.ChangeShapes Go.WideShapes Go.ChangeAt Go.RowKit
set_option maxHeartbeats 2000000
set_option maxRecDepth 20000
section
variable {w w':World} {bw bs B n:Nat} {s:S3} {ov bv ov' bv':Value}
end
end
section
open Go.ChangeShapes Go.WideShapes Go.ChangeAt Go.RowKit
set_option maxHeartbeats 2000000
set_option maxRecDepth 20000
end
section
open Go.ChangeShapes Go.WideShapes Go.ChangeAt Go.RowKit
set_option maxHeartbeats 2000000
set_option maxRecDepth 20000
end
section
open Go.ChangeShapes Go.WideShapes Go.ChangeAt Go.RowKit
set_option maxHeartbeats 2000000
set_option maxRecDepth 20000
end
section
open Go.ChangeShapes Go.WideShapes Go.ChangeAt Go.RowKit
set_option maxHeartbeats 2000000
set_option maxRecDepth 20000
section
variable {W0 w w':World} {gP B n:Nat} {vs:List Value} {rows:List (List Int)}
end
end
section
open Go.ChangeShapes Go.WideShapes Go.ChangeAt Go.RowKit
set_option maxHeartbeats 2000000
set_option maxRecDepth 20000
end
section
inductive Con where
 | sub (s d:Option Nat)
 | put (t d:Nat)
structure AS where
 regs:List Nat
 out:Nat
end
section
end
section
open Go.ChangeShapes Go.WideShapes Go.ChangeAt Go.RowKit
set_option maxHeartbeats 2000000
set_option maxRecDepth 20000
def blkF (b:Bk):Bool:=decide (b.ins.length≤60) && b.ins.all insF
def prF (p:Pr):Bool:=decide (p.blks.length≤40) && (decide (p.objs.length≤20) && p.blks.all blkF)
def fewM (m:Md):Bool:=decide (m.procs.length≤6) && (decide (m.globs.length≤20) && (decide (m.data.length≤20) && m.procs.all prF))
theorem allG_take {α:Type} [Inhabited α] (f:α→Bool) (l:List α) (k:Nat) (h:k<l.length) (h1:(l.take k).all f=true) (h2:f (l.getD k default)=true):(l.take (k+1)).all f=true:=by
 rw [List.take_succ_eq_append_getElem h,List.all_append,h1]
 have:f l[k]=true:=by simpa [List.getD,h] using h2
 simp [this]
theorem allG_no {α:Type} [Inhabited α] (f:α→Bool) (l:List α) (k:Nat) (h:k<l.length) (h2:f (l.getD k default)=false):l.all f=false:=by
 rw [List.all_eq_false]
 exact ⟨l.getD k default,by simp [List.getD,h],by rw [h2];decide⟩
theorem RdPrs.at {w:World} {a:Option Addr} {n c:Nat} {l:List Pr} (h:RdPrs w (.slice a n c) l):n=l.length∧∀ k,k<l.length→∃ b o vo vb,a=some ⟨b,o,none⟩∧RdSls w vo (l.getD k default).objs∧RdBks w vb (l.getD k default).blks∧
  w.cell? ⟨b,o+k*6+4,none⟩=some vo∧w.cell? ⟨b,o+k*6+5,none⟩=some vb:=by
 obtain ⟨a',c',e,h1,h2,hc⟩:=h
 simp only [Value.slice.injEq] at e
 obtain ⟨rfl,rfl,rfl⟩:=e
 refine ⟨rfl,fun k hk=>?_⟩
 obtain ⟨b,o,rfl,h0,h1,h2,h3,⟨vo,h4,ho⟩,⟨vb,h5,hb⟩⟩:=hc k hk
 exact ⟨b,o,vo,vb,rfl,ho,hb,h4,h5⟩
theorem RdBks.at {w:World} {a:Option Addr} {n c:Nat} {l:List Bk} (h:RdBks w (.slice a n c) l):n=l.length∧∀ k,k<l.length→∃ b o vi,a=some ⟨b,o,none⟩∧RdIns w vi (l.getD k default).ins∧w.cell? ⟨b,o+k*5,none⟩=some vi∧
  w.cell? ⟨b,o+k*5+1,none⟩=some (.int .i64 (l.getD k default).fin)∧w.cell? ⟨b,o+k*5+2,none⟩=some (.int .i64 (l.getD k default).a)∧w.cell? ⟨b,o+k*5+3,none⟩=some (.int .i64 (l.getD k default).to)∧w.cell? ⟨b,o+k*5+4,none⟩=some (.int .i64 (l.getD k default).els):=by
 obtain ⟨a',c',e,h1,h2,hc⟩:=h
 simp only [Value.slice.injEq] at e
 obtain ⟨rfl,rfl,rfl⟩:=e
 refine ⟨rfl,fun k hk=>?_⟩
 obtain ⟨b,o,rfl,⟨vi,h0,hi⟩,h1,h2,h3,h4⟩:=hc k hk
 exact ⟨b,o,vi,rfl,hi,by simpa using h0,h1,h2,h3,h4⟩
theorem few_no (m:Md) (v:Value) (w:World) (hv:MdV w v m) (h:¬ (m.procs.length≤6∧m.globs.length≤20∧m.data.length≤20)) :
  Calls Tryz.prog 24 #[v] w fun e w'=>e=.returned (.bool (fewM m))∧Below w.heap.size w w':=by
 obtain ⟨vg,vd,vp,rfl,⟨ag,cg,rfl,hg1,hg2, -⟩,⟨ad,cd,rfl,hd1,hd2, -⟩,⟨ap,cp,rfl,hp1,hp2, -⟩⟩:=hv
 unfold maxLen at hg2 hd2 hp2
 have HF:Hid (fewM m=false):=by
  show _=_
  unfold fewM
  by_cases h1:m.procs.length≤6
  ·by_cases h2:m.globs.length≤20
   ·rw [decide_eq_false (fun h3=>h ⟨h1,h2,h3⟩)];simp
   ·rw [decide_eq_false h2];simp
  ·rw [decide_eq_false h1];rfl
 by_cases h1:m.procs.length≤6
 ·have e1:decide ((6:Int)<(m.procs.length:Int))=false:=decide_eq_false (by omega)
  by_cases h2:m.globs.length≤20
  ·have e2:decide ((20:Int)<(m.globs.length:Int))=false:=decide_eq_false (by omega)
   have h3:¬ m.data.length≤20:=fun h3=>h ⟨h1,h2,h3⟩
   have e3:decide ((20:Int)<(m.data.length:Int))=true:=decide_eq_true (by omega)
   clear h
   go_enter Tryz.func24,Tryz.ntmps24
   go_wp2_with fail
   go_ret
   exact ⟨ret_b HF.out.symm,below_alloc _ _⟩
  ·have e2:decide ((20:Int)<(m.globs.length:Int))=true:=decide_eq_true (by omega)
   clear h
   go_enter Tryz.func24,Tryz.ntmps24
   go_wp2_with fail
   go_ret
   exact ⟨ret_b HF.out.symm,below_alloc _ _⟩
 ·have e1:decide ((6:Int)<(m.procs.length:Int))=true:=decide_eq_true (by omega)
  clear h
  go_enter Tryz.func24,Tryz.ntmps24
  go_wp2_with fail
  go_ret
  exact ⟨ret_b HF.out.symm,below_alloc _ _⟩
theorem few_yes (m:Md) (v:Value) (w:World) (hv:MdV w v m) (h1:m.procs.length≤6) (h2:m.globs.length≤20) (h3:m.data.length≤20) :
  Calls Tryz.prog 24 #[v] w fun e w'=>e=.returned (.bool (fewM m))∧Below w.heap.size w w':=by
 obtain ⟨vg,vd,vp,rfl,⟨ag,cg,rfl,hg1,hg2, -⟩,⟨ad,cd,rfl,hd1,hd2, -⟩,hp⟩:=hv
 have hp':=hp
 obtain ⟨ap,cp,rfl,hp1,hp2, -⟩:=hp'
 have HP:=Lib.hid (RdPrs.at hp).2
 clear hp
 unfold maxLen at hg2 hd2 hp2
 have HF:Hid (fewM m=m.procs.all prF):=by
  show _=_
  unfold fewM;rw [decide_eq_true h1,decide_eq_true h2,decide_eq_true h3];rfl
 have e1:decide ((6:Int)<(m.procs.length:Int))=false:=decide_eq_false (by omega)
 have e2:decide ((20:Int)<(m.globs.length:Int))=false:=decide_eq_false (by omega)
 have e3:decide ((20:Int)<(m.data.length:Int))=false:=decide_eq_false (by omega)
 go_enter Tryz.func24,Tryz.ntmps24
 go_wp2_with fail
 clear e1 e2 e3 h2 h3
 obtain ⟨W0,hW0⟩:∃ W0,W0=(w.alloc (.cells #[.slice ag m.globs.length cg,.slice ad m.data.length cd,.slice ap m.procs.length cp,.int .i64 m.main] 26)):=⟨_,rfl⟩
 have hz0:W0.heap.size=w.heap.size+1:=by rw [hW0];simp
 have HBW:Hid (Below w.heap.size w W0):=by rw [hW0];exact below_alloc w _
 have HX:Hid (∀ w',Below (w.heap.size+1) W0 w'→w'.cell? ⟨w.heap.size,2,none⟩=some (.slice ap m.procs.length cp)):=fun w' hb=>(hb.cell (p:=⟨w.heap.size,2,none⟩) (Nat.lt_succ_self _)).trans (by rw [hW0,cell_of_heap (heap_alloc_new w _)];rfl)
 have HE:Hid (∀ w',Below (w.heap.size+1) W0 w'→Ext w w'):=fun w' hb=>(show Ext w W0 by rw [hW0];exact Ext.alloc w _).trans (Ext.below (hb.mono (by omega)))
 have HR:Hid (∀ w',Below (w.heap.size+1) W0 w'→Below w.heap.size w w'):=fun w' hb=>HBW.out.trans (hb.mono (by omega))
 have hB0:Hid (Below (w.heap.size+1) W0 W0):=Below.refl _ _
 rw [←hW0]
 clear hW0 HBW
 go_loopw [3] (fun i wr=>∃ k:Nat,k≤m.procs.length∧i=.int .i64 (k:Int)∧Hid (Below (w.heap.size+1) W0 wr)∧Hid ((m.procs.take k).all prF=true)) (fun i _=>m.procs.length-(intOf i).toNat)
 case atStart=>exact ⟨0,Nat.zero_le _,rfl,hB0,rfl⟩
 case round=>
  clear hB0
  obtain ⟨k,hk,rfl,hB,HA⟩:=hrel
  have q2:=HX.out wr hB.out
  by_cases hlt:k<m.procs.length
  ·obtain ⟨bp,op,vo,vb,rfl,hvo,hvb,d4,d5⟩:=HP.out k hlt
   have e5b:=d5
   replace d4:=HE.out wr hB.out _ _ d4
   replace d5:=HE.out wr hB.out _ _ d5
   have hY:=allG_take prF m.procs k hlt HA.out
   have hZ:=allG_no prF m.procs k hlt
   generalize m.procs.getD k default=P at *
   obtain ⟨ao,co,rfl,ho1,ho2, -⟩:=hvo
   have hvb':=hvb
   obtain ⟨ab,cb,rfl,hb1,hb2, -⟩:=hvb'
   have HBk:=Lib.hid (RdBks.at hvb).2
   clear hvb
   unfold maxLen at ho2 hb2
   by_cases h4:P.blks.length≤40
   ·have e4:decide ((40:Int)<(P.blks.length:Int))=false:=decide_eq_false (by omega)
    by_cases h5:P.objs.length≤20
    ·have e5:decide ((20:Int)<(P.objs.length:Int))=false:=decide_eq_false (by omega)
     have HPF:Hid (prF P=P.blks.all blkF):=by
      show _=_
      unfold prF;rw [decide_eq_true h4,decide_eq_true h5];rfl
     have hY:=Lib.hid hY
     have hZ:=Lib.hid hZ
     have D5:=Lib.hid e5b
     go_wp2_with fail
     clear e4 e5 h5 q2 d4 d5
     go_loopw [4] (fun i wr=>∃ j:Nat,j≤P.blks.length∧i=.int .i64 (j:Int)∧Hid (Below (w.heap.size+1) W0 wr)∧Hid ((P.blks.take j).all blkF=true)) (fun i _=>P.blks.length-(intOf i).toNat)
     case atStart=>exact ⟨0,Nat.zero_le _,rfl,hB,rfl⟩
     case round=>
      clear hB
      obtain ⟨j,hj,rfl,hB,HA2⟩:=hrel
      have q2:=HX.out wr hB.out
      have d5:=HE.out wr hB.out _ _ D5.out
      by_cases hlj:j<P.blks.length
      ·obtain ⟨b2,o2,vi,rfl,hvi,c0, -⟩:=HBk.out j hlj
       have C0:=Lib.hid c0
       replace c0:=HE.out wr hB.out _ _ c0
       have hY2:=Lib.hid (allG_take blkF P.blks j hlj HA2.out)
       have hZ2:=Lib.hid (allG_no blkF P.blks j hlj)
       generalize P.blks.getD j default=K at *
       have hvi':=hvi
       obtain ⟨ai,ci,rfl,hi1,hi2, -⟩:=hvi'
       have HIn:=Lib.hid (RdIns.at hvi).2
       clear hvi
       unfold maxLen at hi2
       by_cases h6:K.ins.length≤60
       ·have e6:decide ((60:Int)<(K.ins.length:Int))=false:=decide_eq_false (by omega)
        have HKF:Hid (blkF K=K.ins.all insF):=by
         show _=_
         unfold blkF;rw [decide_eq_true h6];rfl
        go_wp2_with fail
        clear e6 q2 d5 c0
        go_loopw [5] (fun i wr=>∃ n:Nat,n≤K.ins.length∧i=.int .i64 (n:Int)∧Hid (Below (w.heap.size+1) W0 wr)∧Hid ((K.ins.take n).all insF=true)) (fun i _=>K.ins.length-(intOf i).toNat)
        case atStart=>exact ⟨0,Nat.zero_le _,rfl,hB,rfl⟩
        case round=>
         clear hB
         obtain ⟨n,hn,rfl,hB,HA3⟩:=hrel
         have q2:=HX.out wr hB.out
         have d5:=HE.out wr hB.out _ _ D5.out
         have c0:=HE.out wr hB.out _ _ C0.out
         by_cases hln:n<K.ins.length
         ·obtain ⟨b3,o3,va,rfl, -,hva,x0,x1,x2,x3,x4,x5,x6,x7,x8,x9,x10⟩:=HIn.out n hln
          replace x0:=HE.out wr hB.out _ _ x0
          replace x1:=HE.out wr hB.out _ _ x1
          replace x2:=HE.out wr hB.out _ _ x2
          replace x3:=HE.out wr hB.out _ _ x3
          replace x4:=HE.out wr hB.out _ _ x4
          replace x5:=HE.out wr hB.out _ _ x5
          replace x6:=HE.out wr hB.out _ _ x6
          replace x7:=HE.out wr hB.out _ _ x7
          replace x8:=HE.out wr hB.out _ _ x8
          replace x9:=HE.out wr hB.out _ _ x9
          replace x10:=HE.out wr hB.out _ _ x10
          have hY3:=allG_take insF K.ins n hln HA3.out
          have hZ3:=allG_no insF K.ins n hln
          generalize K.ins.getD n default=I at *
          have hva':=hva
          obtain ⟨aa,ca,rfl,ha1,ha2, -⟩:=hva'
          unfold maxLen at ha2
          have EI:Hid (Calls Tryz.prog 56 #[.agg #[.int .i64 I.op,.int .i64 I.d,.int .i64 I.a,.int .i64 I.b,.int .i64 I.fn,.int .i64 I.obj,.int .i64 I.off,.int .i64 I.size,.int .u32 I.num,.slice aa I.args.length ca,.bool I.log]] wr fun e w'=>e=.returned (.bool (insF I))∧Below wr.heap.size wr w'):=ins_c I _ wr ⟨_,rfl,hva.ext (HE.out wr hB.out)⟩ (by omega)
          clear hva
          have hBs:w.heap.size+1≤wr.heap.size:=by have:=hB.out.size;omega
          cases hx:insF I
          ·rw [hx] at EI
           have HFf:Hid (fewM m=false):=by
            show _=_
            rw [HF.out,hZ.out (by rw [HPF.out,hZ2.out (by rw [HKF.out,hZ3 hx])])]
           clear hY3 hZ3 hx
           go_wp2_with (go_at_call 56;refine EI.out.mono ?_;rintro e w1 ⟨rfl,hb1⟩;have hb1:=Lib.hid hb1)
           go_ret
           exact ⟨ret_b HFf.out.symm,HR.out _ (hB.out.trans (hb1.out.mono hBs))⟩
          ·rw [hx] at EI
           have HA4:=Lib.hid (hY3 hx)
           clear hY3 hZ3 hx
           go_wp2_with (go_at_call 56;refine EI.out.mono ?_;rintro e w1 ⟨rfl,hb1⟩;have hb1:=Lib.hid hb1)
           go_roundw
           case rel=>exact ⟨n+1,by omega,by go_num,hB.out.trans (hb1.out.mono hBs),HA4⟩
           case measure=>simp [intOf];omega
         ·have HK1:Hid ((P.blks.take (j+1)).all blkF=true):=hY2.out (by rw [HKF.out];have:=HA3.out;rwa [List.take_of_length_le (by omega)] at this)
          go_wp2_with fail
          go_roundw
          case rel=>exact ⟨j+1,by omega,by go_num,hB,HK1⟩
          case measure=>simp [intOf];omega
       ·have e6:decide ((60:Int)<(K.ins.length:Int))=true:=decide_eq_true (by omega)
        have HFf:Hid (fewM m=false):=by
         show _=_
         rw [HF.out,hZ.out (by rw [HPF.out,hZ2.out (by unfold blkF;rw [decide_eq_false h6];rfl)])]
        go_wp2_with fail
        go_ret
        exact ⟨ret_b HFf.out.symm,HR.out _ hB.out⟩
      ·have HP1:Hid ((m.procs.take (k+1)).all prF=true):=hY.out (by rw [HPF.out];have:=HA2.out;rwa [List.take_of_length_le (by omega)] at this)
       go_wp2_with fail
       go_roundw
       case rel=>exact ⟨k+1,by omega,by go_num,hB,HP1⟩
       case measure=>simp [intOf];omega
    ·have e5:decide ((20:Int)<(P.objs.length:Int))=true:=decide_eq_true (by omega)
     have HFf:Hid (fewM m=false):=by
      show _=_
      rw [HF.out,hZ (by unfold prF;rw [decide_eq_true h4,decide_eq_false h5];rfl)]
     clear hY hZ
     go_wp2_with fail
     go_ret
     exact ⟨ret_b HFf.out.symm,HR.out _ hB.out⟩
   ·have e4:decide ((40:Int)<(P.blks.length:Int))=true:=decide_eq_true (by omega)
    have HFf:Hid (fewM m=false):=by
     show _=_
     rw [HF.out,hZ (by unfold prF;rw [decide_eq_false h4];rfl)]
    clear hY hZ
    go_wp2_with fail
    go_ret
    exact ⟨ret_b HFf.out.symm,HR.out _ hB.out⟩
  ·have HFt:Hid (fewM m=true):=by
    show _=_
    rw [HF.out];have:=HA.out;rwa [List.take_of_length_le (by omega)] at this
   go_wp2_with fail
   go_ret
   exact ⟨ret_b HFt.out.symm,HR.out _ hB.out⟩
theorem few_c (m:Md) (v:Value) (w:World) (hv:MdV w v m) :
  Calls Tryz.prog 24 #[v] w fun e w'=>e=.returned (.bool (fewM m))∧Below w.heap.size w w':=by
 by_cases h:m.procs.length≤6∧m.globs.length≤20∧m.data.length≤20
 ·exact few_yes m v w hv h.1 h.2.1 h.2.2
 ·exact few_no m v w hv h
end
section
def offF (n:Int):Bool:=decide (-32768≤n) && decide (n≤32768)
def slotF (s:Sl):Bool:=decide (1≤s.size) && (decide (s.size≤32768) && (s.align ==1 || s.align ==4))
def regF (p:Pr) (r:Int) (should:Bool):Bool:=if should=true then decide (0≤r) && decide (r<p.regs) else r == -1
def blockF (p:Pr) (n:Int):Bool:=decide (0≤n) && decide (n<p.blks.length)
def endF (p:Pr) (b:Bk):Bool :=
 if b.fin=1 then blockF p b.to && (b.a == -1 && b.els ==0)
 else if b.fin=2 then blockF p b.to && (blockF p b.els && regF p b.a true)
 else if b.fin=3 then regF p b.a (!p.void) && (b.to ==0 && b.els ==0)
 else false
def plainI (i:In):In :=
 { op:=i.op,d:= -1,a:= -1,b:= -1,args:=[],log:=if i.op=6∨defI i≠ -1 then false else i.log,num:=if i.op=1 then 0 else i.num,fn:=if i.op=3∨i.op=4 then 0 else i.fn,off:=if i.op=5∨i.op=6∨i.op=7∨i.op=8 then 0 else i.off,size:=if i.op=5∨i.op=6 then 0 else i.size,obj:=if i.op=7∨i.op=8∨i.op=9 then 0 else i.obj }
def bareF (i:In):Bool :=
 (plainI i).fn ==0 && ((plainI i).obj ==0 && ((plainI i).off ==0 && ((plainI i).size ==0 && ((plainI i).num ==0 && (!(plainI i).log && (i.op ==9 || decide (i.args.length=0)))))))
def callF (m:Md) (p:Pr) (i:In):Bool :=
 decide (0≤i.obj) && (decide (i.obj<m.procs.length) && (decide ((i.args.length:Int)=(m.procs.getD i.obj.toNat default).params) && (regF p i.d (!(m.procs.getD i.obj.toNat default).void) && i.args.all fun r=>regF p r true)))
def moreF (m:Md) (p:Pr) (i:In):Bool :=
 if i.op=3 then decide (1≤i.fn) && decide (i.fn≤16)
 else if i.op=4 then decide (17≤i.fn) && decide (i.fn≤19)
 else if i.op=5∨i.op=6 then (i.size ==1 || i.size ==4) && offF i.off
 else if i.op=7 then (decide (0≤i.obj) && decide (i.obj<p.objs.length)) && offF i.off
 else if i.op=8 then (decide (0≤i.obj) && decide (i.obj<m.globs.length)) && offF i.off
 else true
def okI (m:Md) (p:Pr) (i:In):Bool :=
 (decide (1≤i.op) && (decide (i.op≤12) && bareF i)) &&
 if i.op=9 then callF m p i && (regF p i.a false && regF p i.b false)
 else (regF p i.d (i.op !=6 && (i.op !=10 && i.op !=12)) && (regF p i.a (readsA i.op) && regF p i.b (readsB i.op))) && moreF m p i
def okB (m:Md) (p:Pr) (b:Bk):Bool:=b.ins.all (okI m p) && endF p b
def insN (p:Pr):Nat:=(p.blks.map fun b=>b.ins.length).sum
def okHead (p:Pr):Bool :=
 decide (0≤p.params) && (decide (p.params≤6) && (decide (p.params≤p.regs) && (decide (p.regs≤8000) && (decide (p.objs.length≤400) && (decide (1≤p.blks.length) && (decide (p.blks.length≤4000) && (p.objs.all slotF && decide (insN p≤20000))))))))
def okP (m:Md) (p:Pr):Bool:=okHead p && p.blks.all (okB m p)
def dataF (m:Md):Bool:=(List.range m.data.length).all fun k=>decide (((m.data.getD k []).length:Int)=(m.globs.getD k default).size)
def okHeadM (m:Md):Bool :=
 decide (m.data.length=m.globs.length) && (decide (m.globs.length≤200) && (m.globs.all slotF && (decide (1≤m.procs.length) && (decide (m.procs.length≤200) && (decide (0≤m.main) && decide (m.main<m.procs.length))))))
def okM (m:Md):Bool :=
 okHeadM m && (dataF m && (((m.procs.getD m.main.toNat default).params ==0 && !(m.procs.getD m.main.toNat default).void) && m.procs.all (okP m)))
structure SzP (p:Pr):Prop where
 blks:p.blks.length≤100000
 ins:∀ b∈p.blks,b.ins.length≤100000
structure SzM (m:Md):Prop where
 procs:∀ p∈m.procs,SzP p
end
section
def conE (b:Bk):List Con:=if b.fin=3∧b.a≠ -1 then [.sub (some b.a.toNat) none] else []
end
section
open Go.ChangeShapes Go.WideShapes Go.ChangeAt Go.RowKit
set_option maxHeartbeats 4000000
set_option maxRecDepth 100000
end
section
structure Sp where
 thing:Int
 off:Int
 sets:Int
 is:Bool
end
section
end
section
end
end Go.Proofs.YtkhfddodmjnecaaGreatDoor
