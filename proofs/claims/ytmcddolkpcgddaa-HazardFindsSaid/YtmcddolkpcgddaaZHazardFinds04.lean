/-
How a walk through the blocks lies in memory, and what each of its stores and appends makes of it.
-/
import Derived.Test.YtmcddolkpcgddaaZHazardFinds02
import Derived.Test.YtmcddolkpcgddaaZHazardFinds03
import Derived.Deep.OwnRows
import Derived.Deep.CutRange
import Derived.Deep.Cut
import Derived.Deep.CutBlock
import Derived.Maps.AppendAt
set_option maxHeartbeats 4000000
set_option maxRecDepth 20000
set_option linter.all false
namespace Go.Proofs.Ytmcddolkpcgddaa
open Go.ChangeShapes Go.WideShapes Go.ChangeAt Go.RowKit
section
def qed (w:World) (B:Nat) (v:Value) (L:List Value):Prop:=w.ownsRow B 37 1 v L.length L
def qbf (g R c:Nat):Value:=.slice (some ⟨g,0,none⟩) R c
theorem qed.below {w w':World} {B:Nat} {v:Value} {L:List Value} (h:qed w B v L) (hb:Below w.heap.size w w'):qed w' B v L:=by
 obtain ⟨h1,h2|⟨g,cap,cur,h3,h4,h5,r⟩⟩:=h
 ·exact ⟨h1,.inl h2⟩
 ·exact ⟨h1,.inr ⟨g,cap,cur,h3,h4,(hb.block g (qkp h5).1).trans h5,r⟩⟩
theorem qcn.heap {w:World} {g n c:Nat} {l:List Bool} (h:qcn w g n c l):∃ cur,w.heap[g]?=some (.cells cur 4 (0,0)):=by
 obtain ⟨-,⟨h5, -⟩|⟨g',cap,cur,h5, -,hh, -⟩⟩:=h
 ·simp at h5
 ·simp only [Value.slice.injEq,Option.some.injEq,Addr.mk.injEq] at h5
  rw [h5.1.1]
  exact ⟨cur,hh⟩
theorem qed.heap {w:World} {B:Nat} {v:Value} {L:List Value} (h:qed w B v L) {t:Nat} (ht:v.ownBlock=some t):∃ cur,w.heap[t]?=some (.cells cur 37 (0,0)):=by
 obtain ⟨-,⟨rfl, -⟩|⟨g,cap,cur,rfl, -,hh, -⟩⟩:=h
 ·simp [Value.ownBlock] at ht
 ·simp [Value.ownBlock] at ht;subst ht;exact ⟨cur,hh⟩
theorem qcd {w:World} {B:Nat} {v:Value} {L:List Value} {g n c:Nat} {l:List Bool} (h:qed w B v L) (hr:qcn w g n c l):v.ownBlock≠some g:=by
 intro e
 obtain ⟨c1,h1⟩:=h.heap e
 obtain ⟨c2,h2⟩:=hr.heap
 rw [h1] at h2
 simp at h2
theorem qed.but {w w':World} {B g:Nat} {v:Value} {L:List Value} (h:qed w B v L) (hb:But g w w') (hg:v.ownBlock≠some g):qed w' B v L:=by
 obtain ⟨h1,h2|⟨g',cap,cur,rfl,h4,h5,r⟩⟩:=h
 ·exact ⟨h1,.inl h2⟩
 ·exact ⟨h1,.inr ⟨g',cap,cur,rfl,h4,(hb.block g' (qkp h5).1 (fun e=>hg (by simp [Value.ownBlock,e]))).trans h5,r⟩⟩
theorem qcn.grown {w w':World} {g n c:Nat} {l:List Bool} {r:Option Nat} (h:qcn w g n c l) (hb:w.grownBy w' r) (hg:r≠some g):qcn w' g n c l :=
 World.ownsRow.kept h hb (.inr (fun e=>hg (by rw [←e];rfl)))
theorem qu1:(Try.prog.info? 37).map (fun i=>(i.zero,i.size,i.bytes))=some (some (.slice none 0 0),1,24):=by kernel_rfl
theorem q2t {ops:Array Oper} {rest:List Oper} {o:Oper} {a:Act} {W:World} {B:Nat} {v xv:Value} {L:List Value} {g:Nat} {Q:Exit→Act→World→Prop} {s x:Operand} (hown:qed W B v L) (hgd:o.guard=none)
  (ho:o.op=.call { callee:=.builtin .append,args:=#[s,x],argTypes:=#[42,42] }) (hs:a.eval s=v)
  (hx:a.eval x=.slice (some ⟨g,0,none⟩) 1 1) (hc:W.cell? ⟨g,0,none⟩=some xv) (h1:xv.oneCell'=true) (hlen:L.length≤1000000000) (hB:B≤W.heap.size)
  (h:∀ v' w',qed w' B v' (L++[xv])→W.grownBy w' v.ownBlock→wpList Try.prog ops Q rest (a.put o.dst v') w'):wpList Try.prog ops Q (o::rest) a W:=by
 obtain ⟨i0,hi,hz0,hz1,hz2⟩:=info_parts qu1
 refine wpList_append_own _ hgd s x 42 ho B 37 i0 (.slice none 0 0) 1 24 Try.underlying42 hi hz0 hz1 hz2 rfl (by decide) v L.length L hs hown ⟨g,0,none⟩ 1 1 [xv] hx rfl ?_ ?_ ?_ ?_ hB ?_
 ·intro j u hj
  match j,hj with
  | 0,hj=>simp at hj;subst hj;simpa [Addr.add] using hc
 ·intro u hu;simp at hu;subst hu;exact h1
 ·unfold maxLen;omega
 ·omega
 ·intro v' w' h1 h2 _
  refine h v' w' ?_ h2
  unfold qed
  simpa using h1
structure qxl (wr:World) (B:Nat) (vi vo:Value) (Ti To:List Value) (R:Nat) (w:World) (x24 x25 x26 x29 x30:Value) (pa pb:Nat):Prop where
 os:w.os=wr.os
 tape:w.tape=wr.tape
 output:w.output=wr.output
 size:wr.heap.size≤w.heap.size
 block:∀ k,k<wr.heap.size→some k≠vi.ownBlock→some k≠vo.ownBlock→w.heap[k]?=wr.heap[k]?
 tabI:if pa<3 then qed w B vi Ti else qed w B x26 (Ti++[x24])
 tabO:qed w B vo To
 a1:1≤pa→∃ g,x24=qbf g R R∧wr.heap.size≤g∧qcn w g R R (List.replicate R false)
 a2:pa=2→∃ h,x25=.slice (some ⟨h,0,none⟩) 1 1∧wr.heap.size≤h∧w.cell? ⟨h,0,none⟩=some x24
 b1:1≤pb→∃ g,x29=qbf g R R∧wr.heap.size≤g∧qcn w g R R (List.replicate R false)
 b2:pb=2→∃ h,x30=.slice (some ⟨h,0,none⟩) 1 1∧wr.heap.size≤h∧w.cell? ⟨h,0,none⟩=some x29
 ne:1≤pa→1≤pb→x24≠x29
 tI:∀ t,vi.ownBlock=some t→t<wr.heap.size
 tO:∀ t,vo.ownBlock=some t→t<wr.heap.size
theorem q1r (w:World) (R:Nat) (hR:R≤maxLen):qcn (w.alloc (.cells (madeCells #[.bool false] R) 4)) w.heap.size R R (List.replicate R false):=by
 have hl:(madeCells #[Value.bool false] R).toList=(List.replicate R false).map Value.bool:=by
  apply List.ext_getElem
  ·simp [madeCells]
  ·intro i h1 h2
   simp [madeCells,Nat.mod_one]
 refine ⟨by simp,.inr ⟨w.heap.size,R,_,by simp,Nat.zero_le _,heap_alloc_new w _,by simp,hR,by simp [madeCells],?_⟩⟩
 rw [hl]
 simp [List.take_of_length_le]
section
variable {wr:World} {B:Nat} {vi vo:Value} {Ti To:List Value} {R:Nat} {w:World} {x24 x25 x26 x29 x30:Value} {pa pb:Nat}
theorem qxl.grow (h:qxl wr B vi vo Ti To R w x24 x25 x26 x29 x30 pa pb) (o:Obj):qxl wr B vi vo Ti To R (w.alloc o) x24 x25 x26 x29 x30 pa pb:=by
 have hb:=qaa w o
 refine ⟨h.os,h.tape,h.output,Nat.le_trans h.size hb.size,fun k hk h1 h2=>?_,?_,h.tabO.below hb,fun hp=>?_,fun hp=>?_,fun hp=>?_,fun hp=>?_,h.ne,h.tI,h.tO⟩
 ·rw [hb.block k (Nat.lt_of_lt_of_le hk h.size)];exact h.block k hk h1 h2
 ·have:=h.tabI
  split
  ·rename_i hp;rw [if_pos hp] at this;exact this.below hb
  ·rename_i hp;rw [if_neg hp] at this;exact this.below hb
 ·obtain ⟨g,e,hg,hr⟩:=h.a1 hp;exact ⟨g,e,hg,hr.below hb⟩
 ·obtain ⟨g,e,hg,hr⟩:=h.a2 hp;exact ⟨g,e,hg,Ext.alloc w o _ _ hr⟩
 ·obtain ⟨g,e,hg,hr⟩:=h.b1 hp;exact ⟨g,e,hg,hr.below hb⟩
 ·obtain ⟨g,e,hg,hr⟩:=h.b2 hp;exact ⟨g,e,hg,Ext.alloc w o _ _ hr⟩
end
end
section
abbrev Tab:=List (List Bool)
def q2q (li:Tab) (l:List Bool) (ts:List Int):List Bool:=ts.foldl (fun l t=>qxi l (li.getD t.toNat [])) l
def q1w (l:List Bool) (is:List In):List Bool:=is.foldr (fun i l=>qx2 l i) l
structure Lv where
 li:Tab
 lo:Tab
 grew:Bool
def qm7 (p:Pr) (n:Nat) (s:Lv):Lv :=
 let o:=q2q s.li (s.lo.getD n []) (qa1 p n)
 let l:=q1w o (p.blks.getD n default).ins
 ⟨s.li.set n (qxi (s.li.getD n []) l),s.lo.set n o,q2n (s.li.getD n []) l (s.li.getD n []).length || s.grew⟩
def passK (p:Pr):Nat→Lv→Lv
 | 0,s=>s
 | k+1,s=>passK p k (qm7 p k s)
def pass (p:Pr) (s:Lv):Lv:=passK p p.blks.length ⟨s.li,s.lo,false⟩
structure qqi (n R:Nat) (li lo:Tab):Prop where
 lenI:li.length=n
 lenO:lo.length=n
 ri:∀ k,k<n→(li.getD k []).length=R
 ro:∀ k,k<n→(lo.getD k []).length=R
theorem qhb (t:Tab) (n k:Nat) (l:List Bool):(t.set n l).getD k []=if k=n∧n<t.length then l else t.getD k []:=by
 simp only [List.getD,List.getElem?_set]
 by_cases e:n=k
 ·subst e
  by_cases h:n<t.length <;> simp [h]
 ·simp [e,Ne.symm e]
theorem qll (a b:List Bool):(qxi a b).length=a.length:=qyj _ _ _
theorem qwf (li:Tab) (l:List Bool) (ts:List Int):(q2q li l ts).length=l.length:=by
 unfold q2q
 induction ts generalizing l with
 | nil=>rfl
 | cons t ts ih=>rw [List.foldl_cons,ih,qll]
theorem qqi.setI {n R k:Nat} {li lo:Tab} (h:qqi n R li lo) {l:List Bool} (hl:l.length=R):qqi n R (li.set k l) lo :=
 ⟨by simpa using h.lenI,h.lenO,fun j hj=>by rw [qhb];split;exact hl;exact h.ri j hj,h.ro⟩
theorem qqi.setO {n R k:Nat} {li lo:Tab} (h:qqi n R li lo) {l:List Bool} (hl:l.length=R):qqi n R li (lo.set k l) :=
 ⟨h.lenI,by simpa using h.lenO,h.ri,fun j hj=>by rw [qhb];split;exact hl;exact h.ro j hj⟩
theorem qqi.step {p:Pr} {n R k:Nat} {s:Lv} (h:qqi n R s.li s.lo) (hk:k<n):qqi n R (qm7 p k s).li (qm7 p k s).lo :=
 (h.setI (by rw [qll];exact h.ri k hk)).setO (by rw [qwf];exact h.ro k hk)
theorem qqi.passK {p:Pr} {n R:Nat} (k:Nat):∀ {s:Lv},qqi n R s.li s.lo→k≤n→qqi n R (passK p k s).li (passK p k s).lo:=by
 induction k with
 | zero=>intro s h _;exact h
 | succ k ih=>intro s h hk;exact ih (h.step (by omega)) (by omega)
theorem But.keep {g:Nat} {w w':World} (h:But g w w'):qcl (fun b=>b≠g∧b<w.heap.size) w w':=fun b o hb=>h.cell hb.2 hb.1
structure qg8 (W0:World) (n R:Nat) (vi vo:Value) (gi go:Nat→Nat) (li lo:Tab) (w:World):Prop where
 below:Below W0.heap.size W0 w
 tabI:qed w W0.heap.size vi ((List.range n).map fun k=>qbf (gi k) R R)
 tabO:qed w W0.heap.size vo ((List.range n).map fun k=>qbf (go k) R R)
 rowI:∀ k,k<n→qcn w (gi k) R R (li.getD k [])
 rowO:∀ k,k<n→qcn w (go k) R R (lo.getD k [])
 geI:∀ k,k<n→W0.heap.size≤gi k
 geO:∀ k,k<n→W0.heap.size≤go k
 dI:∀ j k,j<n→k<n→gi j=gi k→j=k
 dO:∀ j k,j<n→k<n→go j=go k→j=k
 dX:∀ j k,j<n→k<n→gi j≠go k
section
variable {W0:World} {n R:Nat} {vi vo:Value} {gi go:Nat→Nat} {li lo:Tab} {w w':World}
theorem qg8.grow (h:qg8 W0 n R vi vo gi go li lo w) (hb:Below w.heap.size w w'):qg8 W0 n R vi vo gi go li lo w' :=
 ⟨h.below.trans (hb.mono h.below.size),h.tabI.below hb,h.tabO.below hb,fun k hk=>(h.rowI k hk).below hb,fun k hk=>(h.rowO k hk).below hb,h.geI,h.geO,h.dI,h.dO,h.dX⟩
theorem qcn.but {g g' n c:Nat} {l:List Bool} (h:qcn w g n c l) (hb:But g' w w') (hg:g≠g'):qcn w' g n c l:=qfh.but h hb hg
theorem qg8.setO (h:qg8 W0 n R vi vo gi go li lo w) {k:Nat} (hk:k<n) {l:List Bool} (hb:But (go k) w w') (hr:qcn w' (go k) R R l) (hlo:lo.length=n):qg8 W0 n R vi vo gi go li (lo.set k l) w':=by
 refine ⟨h.below.trans (hb.toBelow (h.geO k hk) h.below.size),h.tabI.but hb (qcd h.tabI (h.rowO k hk)),h.tabO.but hb (qcd h.tabO (h.rowO k hk)),fun j hj=>(h.rowI j hj).but hb (h.dX j k hj hk),fun j hj=>?_,h.geI,h.geO,h.dI,h.dO,h.dX⟩
 rw [qhb]
 by_cases e:j=k
 ·subst e;rw [if_pos ⟨rfl,by omega⟩];exact hr
 ·rw [if_neg (fun h=>e h.1)]
  exact (h.rowO j hj).but hb fun e'=>e (h.dO j k hj hk e')
theorem qg8.setI (h:qg8 W0 n R vi vo gi go li lo w) {k:Nat} (hk:k<n) {l:List Bool} (hb:But (gi k) w w') (hr:qcn w' (gi k) R R l) (hli:li.length=n):qg8 W0 n R vi vo gi go (li.set k l) lo w':=by
 refine ⟨h.below.trans (hb.toBelow (h.geI k hk) h.below.size),h.tabI.but hb (qcd h.tabI (h.rowI k hk)),h.tabO.but hb (qcd h.tabO (h.rowI k hk)),fun j hj=>?_,fun j hj=>(h.rowO j hj).but hb (Ne.symm (h.dX k j hk hj)),h.geI,h.geO,h.dI,h.dO,h.dX⟩
 rw [qhb]
 by_cases e:j=k
 ·subst e;rw [if_pos ⟨rfl,by omega⟩];exact hr
 ·rw [if_neg (fun h=>e h.1)]
  exact (h.rowI j hj).but hb fun e'=>e (h.dI j k hj hk e')
theorem qed.at {B:Nat} {v:Value} {L:List Value} (h:qed w B v L) {k:Nat} (hk:k<L.length):∃ t cap,v=.slice (some ⟨t,0,none⟩) L.length cap∧L.length≤cap∧cap≤maxLen∧∀ j,j<L.length→w.cell? ⟨t,j,none⟩=some (L.getD j undef):=by
 obtain ⟨-,⟨-,h2⟩|⟨t,cap,cur,rfl, -,hh,hn,hc, -,ht⟩⟩:=h
 ·omega
 ·refine ⟨t,cap,rfl,hn,hc,fun j hj=>?_⟩
  rw [qab hh]
  have h3:L[j]?=some (L.getD j undef):=by simp [List.getD,hj]
  rw [←ht,List.getElem?_take] at h3
  split at h3
  ·rw [ht] at h3;simpa using h3
  ·cases h3
theorem qed.len {B:Nat} {v:Value} {L L':List Value} (h:qed w B v L) (e:L=L'):qed w B v L':=e ▸ h
theorem qg8.other (h:qg8 W0 n R vi vo gi go li lo w) {g nn c:Nat} {l:List Bool} (hr:qcn w g nn c l) (hI:∀ k,k<n→g≠gi k) (hO:∀ k,k<n→g≠go k) (hb:But g w w') (hg:W0.heap.size≤g):qg8 W0 n R vi vo gi go li lo w' :=
 ⟨h.below.trans (hb.toBelow hg h.below.size),h.tabI.but hb (qcd h.tabI hr),h.tabO.but hb (qcd h.tabO hr),fun k hk=>(h.rowI k hk).but hb (Ne.symm (hI k hk)),fun k hk=>(h.rowO k hk).but hb (Ne.symm (hO k hk)),h.geI,h.geO,h.dI,h.dO,h.dX⟩
theorem qed.base {B B':Nat} {v:Value} {L:List Value} (h:qed w B v L) (hB:B'≤B):qed w B' v L:=by
 obtain ⟨h1,h2|⟨g,cap,cur,h3,hb,r⟩⟩:=h
 ·exact ⟨h1,.inl h2⟩
 ·exact ⟨h1,.inr ⟨g,cap,cur,h3,Nat.le_trans hB hb,r⟩⟩
end
end
section
end
section
structure S3 where
 st:List Int
 ord:List Int
 back:List (Int×Int)
def S3.enter (s:S3) (n:Int):S3:={ s with st:=s.st.set n.toNat 1 }
def S3.leave (s:S3) (n:Int):S3:={ s with st:=s.st.set n.toNat 2,ord:=s.ord++[n] }
def S3.loop (s:S3) (n t:Int):S3:={ s with back:=s.back++[(n,t)] }
def S3.look (s:S3) (n:Int):Int:=s.st.getD n.toNat 0
def S3.zeros (s:S3):Nat:=s.st.count 0
def rI (p:Pr):Nat→Int→S3→S3
 | 0,_,s=>s
 | f+1,n,s=>((qa1 p n.toNat).foldl (fun s t=>if s.look t=1 then s.loop n t else if s.look t=0 then rI p f t s else s) (s.enter n)).leave n
def hI (p:Pr) (f:Nat) (n:Int) (s:S3) (t:Int):S3:=if s.look t=1 then s.loop n t else if s.look t=0 then rI p f t s else s
theorem qfs (p:Pr) (f:Nat) (n:Int) (s:S3):rI p (f+1) n s=((qa1 p n.toNat).foldl (hI p f n) (s.enter n)).leave n:=rfl
theorem qd2 (s:S3) (n:Int):(s.enter n).st.length=s.st.length:=by simp [S3.enter]
theorem qlz (s:S3) (n:Int):(s.leave n).st.length=s.st.length:=by simp [S3.leave]
theorem qck {p:Pr} {n:Nat} {t:Int} (h:t∈qa1 p n):0≤t∧t<p.blks.length:=by
 unfold qa1 at h
 simpa using (List.mem_filter.1 h).2
theorem q0i (p:Pr):∀ (f:Nat) (n:Int) (s:S3),(rI p f n s).st.length=s.st.length:=by
 intro f
 induction f with
 | zero=>intro n s;rfl
 | succ f ih=>
  intro n s
  rw [qfs,qlz]
  have:∀ (l:List Int) (s:S3),(l.foldl (hI p f n) s).st.length=s.st.length:=by
   intro l
   induction l with
   | nil=>intro s;rfl
   | cons t l ihl=>
    intro s
    rw [List.foldl_cons,ihl]
    unfold hI
    split
    ·rfl
    ·split
     ·exact ih _ _
     ·rfl
  rw [this,qd2]
theorem qwp (p:Pr) (f:Nat) (n:Int) (s:S3) (t:Int):(hI p f n s t).st.length=s.st.length:=by
 unfold hI
 split
 ·rfl
 ·split
  ·exact q0i _ _ _ _
  ·rfl
theorem qg1 (l:List Int) (i:Nat) (x:Int) (hx:x≠0):(l.set i x).count 0≤l.count 0:=by
 by_cases h:i<l.length
 ·rw [List.count_set h]
  have:(x ==(0:Int))=false:=by simpa using hx
  simp [this]
 ·rw [List.set_eq_of_length_le (by omega)];exact Nat.le_refl _
theorem qfk (s:S3) (n:Int):(s.enter n).zeros≤s.zeros:=qg1 _ _ _ (by decide)
theorem qcr (s:S3) (n:Int):(s.leave n).zeros≤s.zeros:=qg1 _ _ _ (by decide)
theorem qdl (s:S3) (n:Int) (h:n.toNat<s.st.length) (h0:s.look n=0):(s.enter n).zeros+1=s.zeros:=by
 unfold S3.zeros S3.enter
 have h1:s.st[n.toNat]=0:=by simpa [S3.look,List.getD,h] using h0
 have h2:0<s.st.count 0:=List.count_pos_iff.2 (h1 ▸ List.getElem_mem h)
 simp only
 rw [List.count_set h]
 simp [h1]
 omega
theorem qh4 (p:Pr) (f:Nat) (ih:∀ n s,(rI p f n s).zeros≤s.zeros) (n:Int) (s:S3) (t:Int):(hI p f n s t).zeros≤s.zeros:=by
 unfold hI
 split
 ·exact Nat.le_refl _
 ·split
  ·exact ih _ _
  ·exact Nat.le_refl _
theorem qfm (p:Pr) (f:Nat) (ih:∀ n s,(rI p f n s).zeros≤s.zeros) (n:Int):∀ (l:List Int) (s:S3),(l.foldl (hI p f n) s).zeros≤s.zeros
 | [],_=>Nat.le_refl _
 | t::l,s=>Nat.le_trans (qfm p f ih n l _) (qh4 p f ih n s t)
theorem qo0 (p:Pr):∀ (f:Nat) (n:Int) (s:S3),(rI p f n s).zeros≤s.zeros
 | 0,_,_=>Nat.le_refl _
 | f+1,n,s=>by
  rw [qfs]
  exact Nat.le_trans (qcr _ _) (Nat.le_trans (qfm p f (qo0 p f) n _ _) (qfk _ _))
theorem qvr (p:Pr) (f:Nat) (n:Int) (s:S3) (t:Int):(hI p f n s t).zeros≤s.zeros:=qh4 p f (qo0 p f) n s t
theorem qyv (p:Pr):∀ (f:Nat) (n:Int) (s:S3),s.st.length=p.blks.length→n.toNat<p.blks.length→s.look n=0→s.zeros≤f→rI p (f+1) n s=rI p f n s:=by
 intro f
 induction f with
 | zero=>intro n s hl hn h0 hz;have:=qdl s n (by omega) h0;omega
 | succ f ih=>
  intro n s hl hn h0 hz
  rw [qfs p (f+1),qfs p f]
  congr 1
  have hz1:=qdl s n (by omega) h0
  have key:∀ (l:List Int) (s:S3),(∀ t∈l,0≤t∧t<p.blks.length)→s.st.length=p.blks.length→s.zeros≤f→l.foldl (hI p (f+1) n) s=l.foldl (hI p f n) s:=by
   intro l
   induction l with
   | nil=>intro s _ _ _;rfl
   | cons t l ihl=>
    intro s hin hsl hsz
    have ht:=hin t (List.mem_cons_self)
    rw [List.foldl_cons,List.foldl_cons]
    have e:hI p (f+1) n s t=hI p f n s t:=by
     unfold hI
     split
     ·rfl
     ·split
      ·exact ih t s hsl (by omega) ‹_› hsz
      ·rfl
    rw [e]
    exact ihl _ (fun x hx=>hin x (List.mem_cons_of_mem _ hx)) (by rw [qwp];exact hsl) (Nat.le_trans (qvr _ _ _ _ _) hsz)
  exact key _ _ (fun t ht=>qck ht) (by rw [qd2];exact hl) (by omega)
structure Kt where
 n:Int
 l:List Int
 v:Value
def gK (p:Pr) (f:Nat) (k:Kt) (s:S3):S3:=(k.l.foldl (hI p f k.n) s).leave k.n
def qid (p:Pr) (f:Nat) (S:List Kt) (s:S3):S3:=S.foldr (gK p f) s
theorem qmn (p:Pr) (f:Nat) (S:List Kt) (n:Int) (v:Value) (s:S3):qid p f (S++[⟨n,[],v⟩]) s=qid p f S (s.leave n):=by
 unfold qid;rw [List.foldr_append];rfl
theorem qgo (p:Pr) (f:Nat) (S:List Kt) (n t:Int) (l:List Int) (v v':Value) (s:S3):qid p f (S++[⟨n,t::l,v⟩]) s=qid p f (S++[⟨n,l,v'⟩]) (hI p f n s t):=by
 unfold qid;rw [List.foldr_append,List.foldr_append];rfl
theorem qpe (p:Pr) (f:Nat) (S:List Kt) (t:Int) (v:Value) (s:S3) (hl:s.st.length=p.blks.length) (hn:t.toNat<p.blks.length) (h0:s.look t=0) (hz:s.zeros≤f):qid p f S (rI p f t s)=qid p f (S++[⟨t,qa1 p t.toNat,v⟩]) (s.enter t):=by
 unfold qid
 rw [List.foldr_append,←qyv p f t s hl hn h0 hz,qfs]
 rfl
def qa2 (S:List Kt) (s:S3):Nat:=(S.map fun k=>k.l.length+1).sum+4*s.zeros
theorem qgn (S:List Kt) (n:Int) (v:Value) (s:S3):qa2 S (s.leave n)<qa2 (S++[⟨n,[],v⟩]) s:=by
 have:=qcr s n
 unfold qa2
 simp
 omega
theorem qe2 (S:List Kt) (n t:Int) (l:List Int) (v v':Value) (s s':S3) (h:s'.zeros=s.zeros):qa2 (S++[⟨n,l,v'⟩]) s'<qa2 (S++[⟨n,t::l,v⟩]) s:=by
 unfold qa2
 simp
 omega
theorem qdu (p:Pr) (n:Nat):(qa1 p n).length≤2:=Nat.le_trans (List.length_filter_le _ _) (qhz _)
theorem qjk (p:Pr) (S:List Kt) (n t:Int) (l:List Int) (v v' v2:Value) (s:S3) (hn:t.toNat<s.st.length) (h0:s.look t=0):qa2 (S++[⟨n,l,v'⟩]++[⟨t,qa1 p t.toNat,v2⟩]) (s.enter t)<qa2 (S++[⟨n,t::l,v⟩]) s:=by
 have:=qdl s t hn h0
 have:=qdu p t.toNat
 unfold qa2
 simp
 omega
end
section
theorem qca {w:World} {B B' s s' n n':Nat} {e e':TypeId} {v v':Value} {xs xs':List Value} (h:w.ownsRow B e s v n xs) (h':w.ownsRow B' e' s' v' n' xs') (he:e≠e'):v.ownBlock=none∨v.ownBlock≠v'.ownBlock:=by
 obtain ⟨-,⟨rfl, -⟩|⟨g,cap,cur,rfl, -,hg, -⟩⟩:=h
 ·exact .inl rfl
 ·obtain ⟨-,⟨rfl, -⟩|⟨g',cap',cur',rfl, -,hg', -⟩⟩:=h'
  ·exact .inr (by simp [Value.ownBlock])
  ·refine .inr fun e2=>he ?_
   simp only [Value.ownBlock,Option.some.injEq] at e2
   subst e2
   rw [hg] at hg'
   simp at hg'
   exact hg'.2
theorem qev {w:World} {B s n g:Nat} {e:TypeId} {v:Value} {xs:List Value} (h:w.ownsRow B e s v n xs) (hg:g<B):v.ownBlock≠some g:=fun e=>by
 have:=(h.lt g e).1
 omega
def qos (w:World) (v v':Value):Prop:=v'.ownBlock=v.ownBlock∨∃ h,w.heap.size≤h∧v'.ownBlock=some h
theorem qos.refl (w:World) (v:Value):qos w v v:=.inl rfl
def qbt (w:World) (B:Nat) (ov bv tv v:Value) (l:List Int):Prop :=
 ∃ a c,v=.slice a l.length c∧l.length≤c∧c≤maxLen∧∀ i,i<l.length→∃ b o,a=some ⟨b,o,none⟩∧B≤b∧ov.ownBlock≠some b∧bv.ownBlock≠some b∧tv.ownBlock≠some b∧w.cell? ⟨b,o+i,none⟩=some (.int .i64 (l.getD i 0))
theorem qbt.kept {w w':World} {B:Nat} {ov bv tv v ov' bv' tv':Value} {l:List Int} {row:Option Nat} (h:qbt w B ov bv tv v l) (hg:w.grownBy w' row)
  (hr:∀ b,row=some b→ov.ownBlock=some b∨bv.ownBlock=some b∨tv.ownBlock=some b∨b<B) (n1:qos w ov ov') (n2:qos w bv bv') (n3:qos w tv tv'):qbt w' B ov' bv' tv' v l:=by
 obtain ⟨a,c,h1,h2,h3,h4⟩:=h
 refine ⟨a,c,h1,h2,h3,fun i hi=>?_⟩
 obtain ⟨b,o,e,hB,k1,k2,k3,hc⟩:=h4 i hi
 have hb:b<w.heap.size:=World.block_lt_of_cell? w _ hc
 have far:∀ x x':Value,x.ownBlock≠some b→qos w x x'→x'.ownBlock≠some b:=fun x x' hx hn=>by
  rcases hn with e|⟨k,hk,e⟩
  ·rw [e];exact hx
  ·rw [e];intro e2;simp only [Option.some.injEq] at e2;omega
 refine ⟨b,o,e,hB,far _ _ k1 n1,far _ _ k2 n2,far _ _ k3 n3,hg.cell hc fun e2=>?_⟩
 rcases hr b e2.symm with h|h|h|h
 ·exact k1 h
 ·exact k2 h
 ·exact k3 h
 ·omega
def qjw (l:List (Int×Int)):List Value:=l.flatMap fun x=>[.int .i64 x.1,.int .i64 x.2]
def qt2 (S:List Kt):List Value:=S.flatMap fun k=>[.int .i64 k.n,k.v]
theorem qbz (S:List Kt):(qt2 S).length=S.length*2:=by
 unfold qt2
 induction S with
 | nil=>rfl
 | cons k S ih=>rw [List.flatMap_cons,List.length_append,ih];simp;omega
theorem qmv (l:List (Int×Int)) (a b:Int):qjw (l++[(a,b)])=qjw l++[.int .i64 a,.int .i64 b]:=by simp [qjw,List.flatMap_append]
theorem qcz (S:List Kt) (k:Kt):qt2 (S++[k])=qt2 S++[.int .i64 k.n,k.v]:=by simp [qt2,List.flatMap_append]
structure WM (wp w:World) (bw bs B n:Nat) (hd:List Value) (s:S3) (ov bv tv:Value) (S:List Kt):Prop where
 wk:w.ownsRow 0 165 9 (.slice (some ⟨bw,0,none⟩) 1 1) 1 (hd++[.slice (some ⟨bs,0,none⟩) n n,ov,bv])
 st:w.ownsRow 0 3 1 (.slice (some ⟨bs,0,none⟩) n n) n (s.st.map (Value.int .i64))
 ord:w.ownsRow B 3 1 ov s.ord.length (s.ord.map (Value.int .i64))
 back:w.ownsRow B 197 2 bv s.back.length (qjw s.back)
 stk:w.ownsRow B 194 2 tv S.length (qt2 S)
 outs:∀ k∈S,qbt w B ov bv tv k.v k.l
 below:Below wp.heap.size wp w
 hd6:hd.length=6
 pw:wp.heap.size≤bw
 ps:wp.heap.size≤bs
 bwB:bw<B
 bsB:bs<B
 Bw:B≤w.heap.size
theorem qba {B:Nat} {w0 w w':World} {row:Option Nat} (h:Below B w0 w) (hB:B≤w.heap.size) (hg:w.grownBy w' row) (hr:∀ b,row=some b→B≤b):Below B w0 w' :=
 ⟨hg.os.trans h.os,hg.tape.trans h.tape,hg.output.trans h.output,Nat.le_trans h.size hg.size,fun k hk=>(hg.block k (by omega) (fun e=>by have:=hr k e.symm;omega)).trans (h.block k hk)⟩
section
variable {wp w:World} {bw bs B n:Nat} {hd:List Value} {s:S3} {ov bv tv:Value} {S:List Kt}
theorem WM.pB (h:WM wp w bw bs B n hd s ov bv tv S):wp.heap.size≤B:=Nat.le_trans h.pw (Nat.le_of_lt h.bwB)
theorem WM.len (h:WM wp w bw bs B n hd s ov bv tv S):s.st.length=n:=by simpa using h.st.1
theorem WM.bne (h:WM wp w bw bs B n hd s ov bv tv S):bw≠bs:=fun e=>by
 rcases qca h.wk h.st (by decide) with h|h
 ·simp [Value.ownBlock] at h
 ·simp [Value.ownBlock,e] at h
theorem WM.grow {w':World} (h:WM wp w bw bs B n hd s ov bv tv S) (hb:Below w.heap.size w w'):WM wp w' bw bs B n hd s ov bv tv S:=by
 have hg:w.grownBy w' none:=⟨hb.os,hb.tape,hb.output,hb.size,fun k hk _=>hb.block k hk⟩
 have nn:∀ v:Value,v.ownBlock=none∨v.ownBlock≠none:=fun v=>by cases v.ownBlock <;> simp
 exact ⟨h.wk.kept hg (nn _),h.st.kept hg (nn _),h.ord.kept hg (nn _),h.back.kept hg (nn _),h.stk.kept hg (nn _),fun k hk=>(h.outs k hk).kept hg (fun b e=>by cases e) (.refl _ _) (.refl _ _) (.refl _ _),
  qba h.below (Nat.le_trans h.pB h.Bw) hg (fun b e=>by cases e),h.hd6,h.pw,h.ps,h.bwB,h.bsB,Nat.le_trans h.Bw hb.size⟩
theorem qj9 {v:Value} {g:Nat} (h:v.ownBlock≠some g):v.ownBlock=none∨v.ownBlock≠some g:=.inr h
theorem WM.setSt (h:WM wp w bw bs B n hd s ov bv tv S) (k:Nat) (x:Int):WM wp (w.setCell ⟨bs,k,none⟩ (.int .i64 x)) bw bs B n hd { s with st:=s.st.set k x } ov bv tv S:=by
 obtain ⟨h1,hg⟩:=h.st.stored k (.int .i64 x)
 refine ⟨h.wk.kept hg (.inr (by simp [Value.ownBlock,h.bne])),by rw [List.map_set];exact h1,h.ord.kept hg (qj9 (qev h.ord h.bsB)),h.back.kept hg (qj9 (qev h.back h.bsB)),h.stk.kept hg (qj9 (qev h.stk h.bsB)),
  fun k hk=>(h.outs k hk).kept hg (fun b e=>?_) (.refl _ _) (.refl _ _) (.refl _ _),qba h.below (Nat.le_trans h.pB h.Bw) hg (fun b e=>?_),h.hd6,h.pw,h.ps,h.bwB,h.bsB,by simpa using h.Bw⟩
 ·simp only [Option.some.injEq] at e;subst e;exact .inr (.inr (.inr h.bsB))
 ·simp only [Option.some.injEq] at e;subst e;exact h.ps
theorem qoj {w:World} {v v':Value} (h:v'.ownBlock=v.ownBlock∨v'.ownBlock=some w.heap.size):qos w v v':=h.imp id fun e=>⟨_,Nat.le_refl _,e⟩
theorem WM.order {w1:World} {ov':Value} {x:Int} (h:WM wp w bw bs B n hd s ov bv tv S) (hg:w.grownBy w1 ov.ownBlock) (ho:w1.ownsRow B 3 1 ov' (s.ord.length+1) (s.ord.map (Value.int .i64)++[.int .i64 x])) (hat:ov'.ownBlock=ov.ownBlock∨ov'.ownBlock=some w.heap.size) :
  WM wp (w1.setCell ⟨bw,7,none⟩ ov') bw bs B n hd { s with ord:=s.ord++[x] } ov' bv tv S:=by
 have hbw:bw<w.heap.size:=Nat.lt_of_lt_of_le h.bwB h.Bw
 have fr:∀ b,ov.ownBlock=some b→B≤b:=fun b e=>(h.ord.lt b e).1
 have wk1:=h.wk.kept hg (.inr (fun e=>by have:=fr bw e.symm;have:=h.bwB;omega))
 obtain ⟨wk2,hg2⟩:=wk1.stored 7 ov'
 have e7:(hd++[Value.slice (some ⟨bs,0,none⟩) n n,ov,bv]).set 7 ov'=hd++[.slice (some ⟨bs,0,none⟩) n n,ov',bv]:=by
  rw [List.set_append_right _ _ (by rw [h.hd6];decide),h.hd6];rfl
 rw [e7] at wk2
 have hB1:=Nat.le_trans h.Bw hg.size
 have k2:∀ {e s n v xs},w1.ownsRow B e s v n xs→(w1.setCell ⟨bw,7,none⟩ ov').ownsRow B e s v n xs:=fun hr=>hr.kept hg2 (qj9 (qev hr h.bwB))
 refine ⟨wk2,(h.st.kept hg (.inr (fun e=>by have:=fr bs e.symm;have:=h.bsB;omega))).kept hg2 (.inr (by simp [Value.ownBlock,Ne.symm h.bne])),by simpa using k2 ho,k2 (h.back.kept hg (qca h.back h.ord (by decide))),
  k2 (h.stk.kept hg (qca h.stk h.ord (by decide))),fun k hk=>((h.outs k hk).kept hg (fun b e=>.inl e) (qoj hat) (.refl _ _) (.refl _ _)).kept hg2 (fun b e=>?_) (.refl _ _) (.refl _ _) (.refl _ _),
  qba (qba h.below (Nat.le_trans h.pB h.Bw) hg (fun b e=>Nat.le_trans h.pB (fr b e))) (Nat.le_trans h.pB hB1) hg2 (fun b e=>?_),h.hd6,h.pw,h.ps,h.bwB,h.bsB,by simpa using hB1⟩
 ·simp only [Option.some.injEq] at e;subst e;exact .inr (.inr (.inr h.bwB))
 ·simp only [Option.some.injEq] at e;subst e;exact h.pw
theorem WM.backs {w1:World} {bv':Value} {x y:Int} (h:WM wp w bw bs B n hd s ov bv tv S) (hg:w.grownBy w1 bv.ownBlock) (ho:w1.ownsRow B 197 2 bv' (s.back.length+1) (qjw s.back++[.int .i64 x,.int .i64 y])) (hat:bv'.ownBlock=bv.ownBlock∨bv'.ownBlock=some w.heap.size) :
  WM wp (w1.setCell ⟨bw,8,none⟩ bv') bw bs B n hd (s.loop x y) ov bv' tv S:=by
 have fr:∀ b,bv.ownBlock=some b→B≤b:=fun b e=>(h.back.lt b e).1
 have wk1:=h.wk.kept hg (.inr (fun e=>by have:=fr bw e.symm;have:=h.bwB;omega))
 obtain ⟨wk2,hg2⟩:=wk1.stored 8 bv'
 have e7:(hd++[Value.slice (some ⟨bs,0,none⟩) n n,ov,bv]).set 8 bv'=hd++[.slice (some ⟨bs,0,none⟩) n n,ov,bv']:=by
  rw [List.set_append_right _ _ (by rw [h.hd6];decide),h.hd6];rfl
 rw [e7] at wk2
 have hB1:=Nat.le_trans h.Bw hg.size
 have k2:∀ {e s n v xs},w1.ownsRow B e s v n xs→(w1.setCell ⟨bw,8,none⟩ bv').ownsRow B e s v n xs:=fun hr=>hr.kept hg2 (qj9 (qev hr h.bwB))
 refine ⟨wk2,(h.st.kept hg (.inr (fun e=>by have:=fr bs e.symm;have:=h.bsB;omega))).kept hg2 (.inr (by simp [Value.ownBlock,Ne.symm h.bne])),k2 (h.ord.kept hg (qca h.ord h.back (by decide))),by unfold S3.loop;rw [qmv];simpa using k2 ho,
  k2 (h.stk.kept hg (qca h.stk h.back (by decide))),fun k hk=>((h.outs k hk).kept hg (fun b e=>.inr (.inl e)) (.refl _ _) (qoj hat) (.refl _ _)).kept hg2 (fun b e=>?_) (.refl _ _) (.refl _ _) (.refl _ _),
  qba (qba h.below (Nat.le_trans h.pB h.Bw) hg (fun b e=>Nat.le_trans h.pB (fr b e))) (Nat.le_trans h.pB hB1) hg2 (fun b e=>?_),h.hd6,h.pw,h.ps,h.bwB,h.bsB,by simpa using hB1⟩
 ·simp only [Option.some.injEq] at e;subst e;exact .inr (.inr (.inr h.bwB))
 ·simp only [Option.some.injEq] at e;subst e;exact h.pw
theorem WM.push {w1:World} {tv':Value} {k:Kt} (h:WM wp w bw bs B n hd s ov bv tv S) (hk:qbt w B ov bv tv k.v k.l) (hg:w.grownBy w1 tv.ownBlock) (ho:w1.ownsRow B 194 2 tv' (S.length+1) (qt2 S++[.int .i64 k.n,k.v])) (hat:tv'.ownBlock=tv.ownBlock∨tv'.ownBlock=some w.heap.size) :
  WM wp w1 bw bs B n hd s ov bv tv' (S++[k]):=by
 have fr:∀ b,tv.ownBlock=some b→B≤b:=fun b e=>(h.stk.lt b e).1
 have hB1:=Nat.le_trans h.Bw hg.size
 have ko:∀ k:Kt,qbt w B ov bv tv k.v k.l→qbt w1 B ov bv tv' k.v k.l:=fun k hk=>hk.kept hg (fun b e=>.inr (.inr (.inl e))) (.refl _ _) (.refl _ _) (qoj hat)
 refine ⟨h.wk.kept hg (.inr (fun e=>by have:=fr bw e.symm;have:=h.bwB;omega)),h.st.kept hg (.inr (fun e=>by have:=fr bs e.symm;have:=h.bsB;omega)),h.ord.kept hg (qca h.ord h.stk (by decide)),h.back.kept hg (qca h.back h.stk (by decide)),
  by rw [qcz];simpa using ho,fun k' hk'=>?_,qba h.below (Nat.le_trans h.pB h.Bw) hg (fun b e=>Nat.le_trans h.pB (fr b e)),h.hd6,h.pw,h.ps,h.bwB,h.bsB,hB1⟩
 rcases List.mem_append.1 hk' with hk'|hk'
 ·exact ko _ (h.outs _ hk')
 ·rw [List.mem_singleton.1 hk'];exact ko _ hk
theorem WM.pop {k:Kt} {gt c:Nat} (h:WM wp w bw bs B n hd s ov bv (.slice (some ⟨gt,0,none⟩) (S.length+1) c) (S++[k])):WM wp w bw bs B n hd s ov bv (.slice (some ⟨gt,0,none⟩) S.length c) S:=by
 have hs:=h.stk
 refine ⟨h.wk,h.st,h.ord,h.back,?_,fun k hk=>h.outs k (List.mem_append_left _ hk),h.below,h.hd6,h.pw,h.ps,h.bwB,h.bsB,h.Bw⟩
 obtain ⟨h1,⟨h2, -⟩|⟨g,cap,cur,h3,hb,hgg,hnc,hcm,hcs,ht⟩⟩:=hs
 ·simp at h2
 ·simp only [Value.slice.injEq,Option.some.injEq,Addr.mk.injEq] at h3
  obtain ⟨⟨rfl, -⟩, -,rfl⟩:=h3
  refine ⟨qbz S,.inr ⟨gt,c,cur,rfl,hb,hgg,by simp at hnc;omega,hcm,hcs,?_⟩⟩
  rw [qcz] at ht
  have:=congrArg (List.take (S.length*2)) ht
  rw [List.take_take,List.take_append_of_le_length (by rw [qbz];exact Nat.le_refl _),List.take_of_length_le (l:=qt2 S) (by rw [qbz];exact Nat.le_refl _)] at this
  simpa [Nat.min_eq_left,Nat.mul_le_mul_right] using this
theorem WM.setTop {x:Int} {l l':List Int} {v v':Value} {gt c:Nat} (h:WM wp w bw bs B n hd s ov bv (.slice (some ⟨gt,0,none⟩) (S.length+1) c) (S++[⟨x,l,v⟩])) (hk:qbt w B ov bv (.slice (some ⟨gt,0,none⟩) (S.length+1) c) v' l') :
  WM wp (w.setCell ⟨gt,S.length*2+1,none⟩ v') bw bs B n hd s ov bv (.slice (some ⟨gt,0,none⟩) (S.length+1) c) (S++[⟨x,l',v'⟩]):=by
 have hs:=h.stk
 rw [List.length_append,List.length_singleton] at hs
 obtain ⟨hs1,hg⟩:=hs.stored (S.length*2+1) v'
 have hBg:B≤gt:=(hs.lt gt rfl).1
 have e:(qt2 (S++[⟨x,l,v⟩])).set (S.length*2+1) v'=qt2 (S++[⟨x,l',v'⟩]):=by
  rw [qcz,qcz,List.set_append_right _ _ (by rw [qbz];omega),qbz]
  simp
 rw [e] at hs1
 have ko:∀ {v l},qbt w B ov bv (.slice (some ⟨gt,0,none⟩) (S.length+1) c) v l→qbt (w.setCell ⟨gt,S.length*2+1,none⟩ v') B ov bv (.slice (some ⟨gt,0,none⟩) (S.length+1) c) v l :=
  fun hk=>hk.kept hg (fun b e=>.inr (.inr (.inl e))) (.refl _ _) (.refl _ _) (.refl _ _)
 refine ⟨h.wk.kept hg (.inr (by have:=h.bwB;simp [Value.ownBlock];omega)),h.st.kept hg (.inr (by have:=h.bsB;simp [Value.ownBlock];omega)),h.ord.kept hg (qca h.ord h.stk (by decide)),h.back.kept hg (qca h.back h.stk (by decide)),
  by rw [List.length_append,List.length_singleton];exact hs1,fun k' hk'=>?_,qba h.below (Nat.le_trans h.pB h.Bw) hg (fun b e=>?_),h.hd6,h.pw,h.ps,h.bwB,h.bsB,by simpa using h.Bw⟩
 ·rcases List.mem_append.1 hk' with hk'|hk'
  ·exact ko (h.outs _ (List.mem_append_left _ hk'))
  ·rw [List.mem_singleton.1 hk'];exact ko hk
 ·simp only [Option.some.injEq] at e;subst e;exact Nat.le_trans h.pB hBg
end
end
end Go.Proofs.Ytmcddolkpcgddaa
