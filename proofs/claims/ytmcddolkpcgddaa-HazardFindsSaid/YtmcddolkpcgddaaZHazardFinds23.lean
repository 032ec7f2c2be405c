/-
inline: what a row of blocks keeps while the builder turns; the builder in memory; shift, copied, the place of the first call.
-/
import Derived.Test.YtmcddolkpcgddaaZHazardFinds22
set_option maxHeartbeats 4000000
set_option maxRecDepth 100000
set_option linter.all false
namespace Go.Proofs.Ytmcddolkpcgddaa
open Go.ChangeShapes Go.WideShapes Go.ChangeAt Go.RowKit
section
def qcm (m:Md) (n:Nat) (q:Pr):Md:={ m with procs:=m.procs.set n q }
theorem qq8 (m:Md) (n:Nat) (q:Pr) (h:n<m.procs.length):pk (qcm m n q) n=q:=by
 unfold pk qcm;simp [List.getD,h]
theorem qf1 (m:Md) (n:Nat) (q:Pr) {k:Nat} (h:k≠n):pk (qcm m n q) k=pk m k:=by
 unfold pk qcm;simp [List.getD,List.getElem?_set,Ne.symm h]
theorem qtp (m:Md) (n:Nat) (q:Pr) (inp:List Int) (p:Pr) (low:Int) (i:In) (regs:List Int) (s:Oc):qjt (qcm m n q) inp p low i regs s=qjt m inp p low i regs s:=rfl
theorem qvm (m:Md) (n:Nat) (q:Pr):enM (qcm m n q)=enM m:=rfl
theorem qp0 {m:Md} {n:Nat} {q:Pr} (hn:n<m.procs.length) (h:q.objs=(pk m n).objs) (k:Nat):qmu (pk (qcm m n q) k)=qmu (pk m k):=by
 by_cases e:k=n
 ·subst e;rw [qq8 _ _ _ hn];unfold qmu;rw [h]
 ·rw [qf1 _ _ _ e]
def qqw (R:Fr→Fr→Prop):List Fr→List Fr→Prop
 | [],[]=>True
 | a::l,b::k=>R a b∧qqw R l k
 | _,_=>False
theorem qlf {R:Fr→Fr→Prop}:∀ {a b:List Fr},qqw R a b→a.length=b.length
 | [],[],_=>rfl
 | _::_,_::_,h=>by
  have:=qlf (R:=R) h.2
  simp [this]
 | [],_::_,h=>h.elim
 | _::_,[],h=>h.elim
def FrS (n0:Nat) (S:Fr→Fr→Prop) (f f':Fr):Prop:=f.n≠n0∧f'=f∨f.n=n0∧f'.n=n0∧f'.low=f.low∧S f f'
def q28 (n0:Nat) (T:Fr→Fr→Oc→Oc→Prop) (f f':Fr) (s s':Oc):Prop:=f.n≠n0∧f'=f∧s'=s∨f.n=n0∧f'.n=n0∧f'.low=f.low∧T f f' s s'
inductive qpi (m:Md) (n0:Nat) (S:Fr→Fr→Prop) (T:Fr→Fr→Oc→Oc→Prop):Ms→Ms→Prop
 | done (s:Oc) (hm:qty s.mem):qpi m n0 S T ⟨[],false,s⟩ ⟨[],false,s⟩
 | on (f f':Fr) (K K':List Fr) (s s':Oc) (hi:MIv m ⟨f::K,false,s⟩) (hk:qqw (FrS n0 S) K K') (ht:q28 n0 T f f' s s'):qpi m n0 S T ⟨f::K,false,s⟩ ⟨f'::K',false,s'⟩
def q1d (l:List Int):Prop:=∀ x∈l,0≤x∧x<4294967296
structure qz1 (m:Md) (inp:List Int) (n0:Nat) (q:Pr) (S:Fr→Fr→Prop) (T:Fr→Fr→Oc→Oc→Prop) (c:Nat):Prop where
 pos:1≤c
 enter:∀ args low s,(args.length:Int)=(pk m n0).params→q1d args→qty s.mem→T ⟨n0,args++List.replicate ((pk m n0).regs.toNat-args.length) 0,low,0,0⟩ ⟨n0,args++List.replicate (q.regs.toNat-args.length) 0,low,0,0⟩ s s
 ins:∀ f f' s s' r,f.n=n0→f'.n=n0→f'.low=f.low→T f f' s s'→GFr m f→qty s.mem→f.i<(fBk m f).ins.length→(fIn m f).op≠9→qjt m inp (pk m n0) f.low (fIn m f) f.regs s=some r→
  ∃ k g t,k≤c∧g.n=n0∧g.low=f.low∧(∀ K,itM (qcm m n0 q) inp k ⟨f'::K,false,s'⟩=⟨g::K,false,t⟩)∧T { f with regs:=r.1,i:=f.i+1 } g r.2 t
 call:∀ f f' s s',f.n=n0→f'.n=n0→f'.low=f.low→T f f' s s'→GFr m f→qty s.mem→f.i<(fBk m f).ins.length→(fIn m f).op=9→
  ∃ k g,k+1≤c∧g.n=n0∧g.low=f.low∧(∀ K,itM (qcm m n0 q) inp k ⟨f'::K,false,s'⟩=⟨g::K,false,s⟩)∧(∀ K,qfi (qcm m n0 q) inp ⟨g::K,false,s⟩=qeu (qcm m n0 q) (fUp g::K) (fIn m f).obj.toNat ((fIn m f).args.map (rg f.regs)) f.low s)∧S (fUp f) (fUp g)
 ret:∀ f f' v s,f.n=n0→f'.n=n0→f'.low=f.low→S f f'→UFr m f→(0≤v∧v<4294967296)→qty s.mem→T (qpv m f v) (qpv (qcm m n0 q) f' v) s s
 fin:∀ f f' s s',f.n=n0→f'.n=n0→f'.low=f.low→T f f' s s'→GFr m f→qty s.mem→f.i=(fBk m f).ins.length→(fBk m f).fin≠3→
  ∃ k g t,k≤c∧g.n=n0∧g.low=f.low∧(∀ K,itM (qcm m n0 q) inp k ⟨f'::K,false,s'⟩=⟨g::K,false,t⟩)∧T (qp3 m f) g s t
 back:∀ f f' s s',f.n=n0→f'.n=n0→f'.low=f.low→T f f' s s'→GFr m f→qty s.mem→f.i=(fBk m f).ins.length→(fBk m f).fin=3→
  ∃ k g,k+1≤c∧(∀ K,itM (qcm m n0 q) inp k ⟨f'::K,false,s'⟩=⟨g::K,false,s⟩)∧(∀ K,qfi (qcm m n0 q) inp ⟨g::K,false,s⟩=qm5 (qcm m n0 q) K (if (fBk m f).a≠ -1 then rg f.regs (fBk m f).a else 0) s)
section
variable {m:Md} {inp:List Int} {n0:Nat} {q:Pr} {S:Fr→Fr→Prop} {T:Fr→Fr→Oc→Oc→Prop} {c:Nat}
theorem qsn (f:Fr) (K:List Fr) (s:Oc):(⟨f::K,false,s⟩:Ms).fin=false:=rfl
theorem qs6 {m':Md} {k:Nat} {A B:Ms} (h:itM m' inp k A=B) (hB:B.fin=false):itM m' inp (k+1) A=qfi m' inp B:=by
 rw [qri,h,qhh _ hB];rfl
theorem q06 {m':Md} {A:Ms} (hA:A.fin=false):itM m' inp 1 A=qfi m' inp A:=by rw [qhh _ hA];rfl
theorem qcj {f:Fr} (h:f.n≠n0):fBk (qcm m n0 q) f=fBk m f:=by unfold fBk;rw [qf1 _ _ _ h]
theorem qgi {f:Fr} (h:f.n≠n0):fIn (qcm m n0 q) f=fIn m f:=by unfold fIn;rw [qcj h]
theorem qp2 {f:Fr} (h:f.n≠n0) (v:Int):qpv (qcm m n0 q) f v=qpv m f v:=by unfold qpv;rw [qf1 _ _ _ h]
theorem qmj {f:Fr} (h:f.n≠n0):qp3 (qcm m n0 q) f=qp3 m f:=by unfold qp3;rw [qcj h]
theorem qz1.backR (H:qz1 m inp n0 q S T c) {K K':List Fr} {s:Oc} {v:Int} (hK:∀ fr∈K,UFr m fr) (hm:qty s.mem) (hv:0≤v∧v<4294967296) (hk:qqw (FrS n0 S) K K'):qpi m n0 S T (qm5 m K v s) (qm5 (qcm m n0 q) K' v s):=by
 match K,K',hk with
 | [],[],_=>exact qpi.done _ hm
 | [],_::_,h=>exact h.elim
 | _::_,[],h=>exact h.elim
 | f::K1,f'::K1',hk=>
  obtain ⟨h1,h2⟩:=hk
  rw [qe9,qe9]
  have hM:=MIv.back hv hK hm
  rw [qe9] at hM
  refine qpi.on _ _ _ _ _ _ hM h2 ?_
  have hr:=qq6 m f v
  have hr':=qq6 (qcm m n0 q) f' v
  rcases h1 with ⟨e1,e2⟩|⟨e1,e2,e3,e4⟩
  ·refine .inl ⟨by rw [hr.1];exact e1,by rw [e2,qp2 e1],rfl⟩
  ·refine .inr ⟨by rw [hr.1];exact e1,by rw [hr'.1];exact e2,by rw [hr'.2.1,hr.2.1];exact e3,H.ret _ _ _ _ e1 e2 e3 e4 (hK f List.mem_cons_self) hv hm⟩
theorem qz1.enterR (H:qz1 m inp n0 q S T c) (hn:n0<m.procs.length) (ho:q.objs=(pk m n0).objs) {K K':List Fr} {s:Oc} {n:Nat} {args:List Int} {top:Int} (hi:MIv m (qeu m K n args top s)) (hh:(qeu m K n args top s).halt=false) (hm:qty s.mem) (ha:(args.length:Int)=(pk m n).params) (haw:q1d args) (hk:qqw (FrS n0 S) K K'):qpi m n0 S T (qeu m K n args top s) (qeu (qcm m n0 q) K' n args top s):=by
 unfold qeu at hi hh ⊢
 rw [qp0 hn ho,qvm,←qlf hk]
 by_cases hc:top-qmu (pk m n)<enM m∨5000≤K.length
 ·rw [if_pos hc] at hh;cases hh
 ·rw [if_neg hc] at hi ⊢
  rw [if_neg hc]
  refine qpi.on _ _ _ _ _ _ hi hk ?_
  by_cases e:n=n0
  ·subst e
   refine .inr ⟨rfl,rfl,rfl,?_⟩
   rw [qq8 _ _ _ hn]
   exact H.enter args _ s ha haw hm
  ·exact .inl ⟨e,by rw [qf1 _ _ _ e],rfl⟩
theorem qz1.step (H:qz1 m inp n0 q S T c) (hok:okM m=true) (hmd:qtw m) (hiw:∀ x∈inp,0≤x∧x<4294967296) (hn:n0<m.procs.length) (ho:q.objs=(pk m n0).objs) {M N:Ms} (hR:qpi m n0 S T M N) (hfin:M.fin=false) (hh:(qfi m inp M).halt=false) :
  ∃ k,k≤c∧qpi m n0 S T (qfi m inp M) (itM (qcm m n0 q) inp k N):=by
 cases hR with
 | done s hm=>cases hfin
 | on f f' K K' s s' hi hk ht=>
  have hG:=hi.fr f List.mem_cons_self
  have hK:∀ fr∈K,UFr m fr:=fun fr hfr=>hi.up fr hfr
  have hM':=MIv.step hok hmd hiw hi hh
  have hrg:=qji hG.w
  have hP:=qgf hok hG.n
  have hB:=qjm hP hG.b
  rcases ht with ⟨e1,rfl,rfl⟩|⟨e1,e2,e3,hT⟩
  ·refine ⟨1,H.pos,?_⟩
   rw [q06 (qsn _ _ _)]
   by_cases hl:f'.i=(fBk m f').ins.length
   ·by_cases h3:(fBk m f').fin=3
    ·rw [qn1 hl h3,qn1 (by rw [qcj e1];exact hl) (by rw [qcj e1];exact h3),qcj e1]
     exact H.backR hK hi.mem (by split;exact hrg _;exact ⟨by decide,by decide⟩) hk
    ·rw [qoy hl h3] at hM' ⊢
     rw [qoy (by rw [qcj e1];exact hl) (by rw [qcj e1];exact h3),qmj e1]
     exact qpi.on _ _ _ _ _ _ hM' hk (.inl ⟨e1,rfl,rfl⟩)
   ·have hlt:f'.i<(fBk m f').ins.length:=by have:=hG.i;unfold fBk at *;omega
    have hI:okI m (pk m f'.n) (fIn m f')=true:=qgw hB hlt
    by_cases h9:(fIn m f').op=9
    ·rw [qiz hl h9] at hM' hh ⊢
     rw [qiz (by rw [qcj e1];exact hl) (by rw [qgi e1];exact h9),qgi e1]
     obtain ⟨c1,c2,hpar, -, -⟩:=qfx hI h9
     refine H.enterR hn ho hM' hh hi.mem (by rw [List.length_map];exact hpar) (fun x hx=>?_) ⟨.inl ⟨e1,rfl⟩,hk⟩
     obtain ⟨y, -,rfl⟩:=List.mem_map.1 hx
     exact hrg y
    ·cases hX:qjt m inp (pk m f'.n) f'.low (fIn m f') f'.regs s' with
     | none=>rw [qso hl h9 hX] at hh;cases hh
     | some r=>
      rw [qoi hl h9 hX] at hM' ⊢
      rw [qoi (r:=r) (by rw [qcj e1];exact hl) (by rw [qgi e1];exact h9) (by rw [qgi e1,qf1 _ _ _ e1,qtp];exact hX)]
      exact qpi.on _ _ _ _ _ _ hM' hk (.inl ⟨e1,rfl,rfl⟩)
  ·by_cases hl:f.i=(fBk m f).ins.length
   ·by_cases h3:(fBk m f).fin=3
    ·obtain ⟨k,g,h4,h5,h6⟩:=H.back f f' s s' e1 e2 e3 hT hG hi.mem hl h3
     refine ⟨k+1,h4,?_⟩
     rw [qs6 (h5 K') (qsn _ _ _),h6,qn1 hl h3]
     exact H.backR hK hi.mem (by split;exact hrg _;exact ⟨by decide,by decide⟩) hk
    ·obtain ⟨k,g,t,h4,h5,h6,h7,h8⟩:=H.fin f f' s s' e1 e2 e3 hT hG hi.mem hl h3
     refine ⟨k,h4,?_⟩
     rw [h7]
     rw [qoy hl h3] at hM' ⊢
     exact qpi.on _ _ _ _ _ _ hM' hk (.inr ⟨e1,h5,h6,h8⟩)
   ·have hlt:f.i<(fBk m f).ins.length:=by have:=hG.i;unfold fBk at *;omega
    have hI:okI m (pk m f.n) (fIn m f)=true:=qgw hB hlt
    by_cases h9:(fIn m f).op=9
    ·obtain ⟨k,g,h4,h5,h6,h7,h8,h10⟩:=H.call f f' s s' e1 e2 e3 hT hG hi.mem hlt h9
     refine ⟨k+1,h4,?_⟩
     rw [qs6 (h7 K') (qsn _ _ _),h8]
     rw [qiz hl h9] at hM' hh ⊢
     obtain ⟨c1,c2,hpar, -, -⟩:=qfx hI h9
     refine H.enterR hn ho hM' hh hi.mem (by rw [List.length_map];exact hpar) (fun x hx=>?_) ⟨.inr ⟨e1,h5,h6,h10⟩,hk⟩
     obtain ⟨y, -,rfl⟩:=List.mem_map.1 hx
     exact hrg y
    ·cases hX:qjt m inp (pk m f.n) f.low (fIn m f) f.regs s with
     | none=>rw [qso hl h9 hX] at hh;cases hh
     | some r=>
      obtain ⟨k,g,t,h4,h5,h6,h7,h8⟩:=H.ins f f' s s' r e1 e2 e3 hT hG hi.mem hlt h9 (by rw [←e1];exact hX)
      refine ⟨k,h4,?_⟩
      rw [h7]
      rw [qoi hl h9 hX] at hM' ⊢
      exact qpi.on _ _ _ _ _ _ hM' hk (.inr ⟨e1,h5,h6,h8⟩)
end
end
section
theorem q2o {m:Md} {p:Pr} {i:In} (h:okI m p i=true):1≤i.op∧i.op≤12:=by
 unfold okI at h
 simp only [Bool.and_eq_true,decide_eq_true_eq] at h
 exact ⟨h.1.1,h.1.2.1⟩
theorem qwc {m:Md} {p:Pr} {i:In} (h:okI m p i=true) (h9:i.op≠9):qby p i.d (i.op !=6 && (i.op !=10 && i.op !=12))=true∧qby p i.a (qdc i.op)=true∧qby p i.b (qdp i.op)=true∧qeb m p i=true:=by
 unfold okI at h
 simp only [Bool.and_eq_true] at h
 have h:=h.2
 rw [if_neg h9] at h
 simp only [Bool.and_eq_true] at h
 exact ⟨h.1.1,h.1.2.1,h.1.2.2,h.2⟩
theorem qrx {p:Pr} {r:Int} (h:qby p r true=true):0≤r∧r<p.regs:=by unfold qby at h;simpa using h
theorem quj {p:Pr} {r:Int} {b:Bool} (h:qby p r b=true):r= -1∨0≤r∧r<p.regs:=by
 cases b
 ·left;unfold qby at h;simpa using h
 ·exact .inr (qrx h)
theorem q19 {m:Md} {p:Pr} {i:In} (h:okI m p i=true) (hd:i.op≠6∧i.op≠10∧i.op≠12∧i.op≠9):0≤i.d∧i.d<p.regs:=by
 have h1:=(qwc h (by omega)).1
 have e:(i.op !=6 && (i.op !=10 && i.op !=12))=true:=by simp;omega
 rw [e] at h1
 exact qrx h1
end
section
theorem qtw.with {m:Md} {n:Nat} {q:Pr} (h:qtw m) (hq:quq q):qtw (qcm m n q):=by
 obtain ⟨h1,h2,h3,h4⟩:=h
 refine ⟨h1,h2,fun p hp=>?_,h4⟩
 unfold qcm at hp
 rcases List.mem_or_eq_of_mem_set hp with hp|rfl
 ·exact h3 p hp
 ·exact hq
theorem SzM.with {m:Md} {n:Nat} {q:Pr} (h:SzM m) (hq:SzP q):SzM (qcm m n q):=⟨fun p hp=>by
 unfold qcm at hp
 rcases List.mem_or_eq_of_mem_set hp with hp|rfl
 ·exact h.procs p hp
 ·exact hq⟩
end
section
section
variable {q p:Pr} {n at':Nat} {x:Bk} {i:In}
end
end
section
end
section
def Src (w:World) (v:Value) (n:Nat) (xs:List Value):Prop:=((∃ c,v=.slice none 0 c)∧n=0∧xs=[])∨∃ (ad:Addr) (c:Nat),v=.slice (some ad) n c∧n≤c∧c≤maxLen∧∀ j u,xs[j]?=some u→∃ b o,ad=⟨b,o,none⟩∧w.cell? ⟨b,o+j,none⟩=some u
theorem Src.keep {w w':World} {v:Value} {n:Nat} {xs:List Value} (h:Src w v n xs) (hb:Ext w w'):Src w' v n xs:=by
 rcases h with h|⟨ad,c,e,h1,h2,hc⟩
 ·exact .inl h
 ·exact .inr ⟨ad,c,e,h1,h2,fun j u hj=>by
   obtain ⟨b,o,ea,this⟩:=hc j u hj
   exact ⟨b,o,ea,hb _ _ this⟩⟩
theorem qyu:(Try.prog.info? 58).map (fun i=>(i.zero,i.size,i.bytes))=some (some (.agg #[.int .i64 0,.int .i64 0,.int .i64 0,.int .i64 0,.int .i64 0,.int .i64 0,.int .i64 0,.int .i64 0,.int .u32 0,.slice none 0 0,.bool false]),11,104):=by kernel_rfl
structure qyf (w:World) (B:Nat) (v:Value) (L:List (Bk×Value)):Prop where
 own:w.ownsRow B 51 5 v L.length (L.flatMap qiu)
 ins:∀ x∈L,qbd w x.2 x.1.ins
theorem qyf.below {w w':World} {B:Nat} {v:Value} {L:List (Bk×Value)} (h:qyf w B v L) (hb:Below w.heap.size w w'):qyf w' B v L:=⟨qav h.own hb,fun x hx=>(h.ins x hx).ext (Ext.below hb)⟩
theorem qb5.sl {w:World} {v:Value} {k n:Nat} {R:Nat→(Nat→Option Value)→Prop} (h:qb5 w v k n R):∃ a m c,v=.slice a m c:=by
 obtain ⟨a,c,h1, -⟩:=h
 exact ⟨a,n,c,h1⟩
structure qp8 (w:World) (B:Nat) (v:Value) (L:List (In×Value)):Prop where
 own:w.ownsRow B 58 11 v L.length (L.flatMap qbg)
 args:∀ x∈L,RdI w x.2 x.1.args
theorem qp8.rd {w:World} {B:Nat} {v:Value} {L:List (In×Value)} (h:qp8 w B v L):qbd w v (L.map Prod.fst):=by
 have H:=qf7 (α:=In×Value) (f:=qbg) (by decide:0<11) (fun _=>rfl) h.own
 have hl:L.length=(L.map Prod.fst).length:=by simp
 unfold qbd
 rw [←hl]
 obtain ⟨a,c,h1,h2,h3,h4⟩:=H
 refine ⟨a,c,h1,h2,h3,fun i hi=>?_⟩
 obtain ⟨b,o,e1,r⟩:=h4 i hi
 have eg:L.getD i default=L[i]:=by simp [List.getD,hi]
 have eg2:(L.map Prod.fst).getD i default=L[i].1:=by simp [List.getD,hi]
 rw [eg] at r
 refine ⟨b,o,e1,?_⟩
 dsimp only
 rw [eg2]
 exact ⟨r 0 _ rfl,r 1 _ rfl,r 2 _ rfl,r 3 _ rfl,r 4 _ rfl,r 5 _ rfl,r 6 _ rfl,r 7 _ rfl,r 8 _ rfl,⟨_,r 9 _ rfl,h.args _ (List.getElem_mem hi)⟩,r 10 _ rfl⟩
theorem qp8.below {w w':World} {B:Nat} {v:Value} {L:List (In×Value)} (h:qp8 w B v L) (hb:Below w.heap.size w w'):qp8 w' B v L:=⟨qav h.own hb,fun x hx=>(h.args x hx).ext (Ext.below hb)⟩
end
section
theorem q0q {w:World} {B n s b:Nat} {e ty:TypeId} {v:Value} {xs:List Value} {cs:Array Value} (h:w.ownsRow B e s v n xs) (hb:w.heap[b]?=some (.cells cs ty)) (hne:e≠ty):v.ownBlock≠some b:=by
 obtain ⟨-,⟨rfl, -⟩|⟨g,cap,cur,rfl,h3,h4, -⟩⟩:=h
 ·simp [Value.ownBlock]
 ·intro e
  simp only [Value.ownBlock,Option.some.injEq] at e
  subst e
  rw [h4] at hb
  injection hb with hb
  injection hb with _ hb
  exact hne hb
theorem qtc {w w':World} {B n s b:Nat} {e ty:TypeId} {v:Value} {xs:List Value} {cs:Array Value} (h:w.ownsRow B e s v n xs) (hk:But b w w') (hb:w.heap[b]?=some (.cells cs ty)) (hne:e≠ty):w'.ownsRow B e s v n xs :=
 World.ownsRow.kept h ⟨hk.os,hk.tape,hk.output,hk.size,fun k hk' hne=>hk.block k hk' (fun e=>hne (by rw [e]))⟩ (.inr (q0q h hb hne))
def KrS (w0 w:World) (x:Bk×Value):Prop:=qbd w0 x.2 x.1.ins∨∃ LI:List (In×Value),LI.map Prod.fst=x.1.ins∧(∀ y∈LI,RdI w0 y.2 y.1.args)∧w.ownsRow 0 58 11 x.2 LI.length (LI.flatMap qbg)
section
variable {w0 w w':World} {x:Bk×Value} {b:Nat} {cs:Array Value} {ty:TypeId} {v:Value} {bs:List Bk}
theorem KrS.but (h:KrS w0 w x) (hb:But b w w') (hc:w.heap[b]?=some (.cells cs ty)) (ht:58≠ty):KrS w0 w' x:=by
 rcases h with h|⟨LI,h1,h2,h3⟩
 ·exact .inl h
 ·exact .inr ⟨LI,h1,h2,qtc h3 hb hc ht⟩
theorem KrS.below (h:KrS w0 w x) (hb:Below w.heap.size w w'):KrS w0 w' x:=by
 rcases h with h|⟨LI,h1,h2,h3⟩
 ·exact .inl h
 ·exact .inr ⟨LI,h1,h2,qav h3 hb⟩
def BkS (w0 w:World) (v:Value) (bs:List Bk):Prop:=qbl w0 v bs∨∃ L:List (Bk×Value),L.map Prod.fst=bs∧w.ownsRow 0 51 5 v L.length (L.flatMap qiu)∧∀ x∈L,KrS w0 w x
theorem BkS.but (h:BkS w0 w v bs) (hb:But b w w') (hc:w.heap[b]?=some (.cells cs ty)) (ht:58≠ty) (ht2:51≠ty):BkS w0 w' v bs:=by
 rcases h with h|⟨L,h1,h2,h3⟩
 ·exact .inl h
 ·exact .inr ⟨L,h1,qtc h2 hb hc ht2,fun x hx=>(h3 x hx).but hb hc ht⟩
theorem BkS.below (h:BkS w0 w v bs) (hb:Below w.heap.size w w'):BkS w0 w' v bs:=by
 rcases h with h|⟨L,h1,h2,h3⟩
 ·exact .inl h
 ·exact .inr ⟨L,h1,qav h2 hb,fun x hx=>(h3 x hx).below hb⟩
end
structure BdW (w0:World) (m:Md) (bb:Nat) (w:World) (Q:Pr) (full:Bool) (vg vd vp vo:Value) (nm:ByteArray) (vb:Value):Prop where
 bx:w.heap[bb]?=some (.cells #[vg,vd,vp,.int .i64 m.main,.string nm,.bool Q.void,.int .i64 Q.params,.int .i64 Q.regs,vo,vb,.bool full] 70)
 md:MdV w0 (.agg #[vg,vd,vp,.int .i64 m.main]) m
 ob:qce w0 vo Q.objs
 bk:BkS w0 w vb Q.blks
 le:w0.heap.size≤bb
 be:Below w0.heap.size w0 w
section
variable {w0 w w':World} {m:Md} {bb:Nat} {Q:Pr} {full:Bool} {vg vd vp vo vb:Value} {nm:ByteArray}
theorem BdW.below (h:BdW w0 m bb w Q full vg vd vp vo nm vb) (hb:Below w.heap.size w w'):BdW w0 m bb w' Q full vg vd vp vo nm vb :=
 ⟨(hb.block _ (qkp h.bx).1).trans h.bx,h.md,h.ob,h.bk.below hb,h.le,h.be.trans (hb.mono h.be.size)⟩
theorem BdW.ext (h:BdW w0 m bb w Q full vg vd vp vo nm vb):Ext w0 w:=Ext.below h.be
theorem BdW.lt (h:BdW w0 m bb w Q full vg vd vp vo nm vb):bb<w.heap.size:=(qkp h.bx).1
end
end
end Go.Proofs.Ytmcddolkpcgddaa
