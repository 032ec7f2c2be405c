/-
 A procedure in which nothing is reckoned twice does the same. Plain.
-/
import Derived.Test.YtkhfddodmjnecaaGreatDoorZFoldDoes33
set_option linter.all false
namespace Go.Proofs.YtkhfddodmjnecaaGreatDoor
theorem vlsL_app:∀ (a b:List In) (d:Dk),vlsL d (a++b)=vlsL d a++vlsL (dskL d a) b
 | [],b,d=>rfl
 | i::a,b,d=>by
  rw [List.cons_append,vlsL,vlsL,dskL,vlsL_app a b]
  split <;> rfl
theorem dskL_app:∀ (a b:List In) (d:Dk),dskL d (a++b)=dskL (dskL d a) b
 | [],b,d=>rfl
 | i::a,b,d=>by rw [List.cons_append,dskL,dskL,dskL_app a b]
def dkA (l:List In) (k:Nat):Dk:=dskL Dk0 (l.take k)
def ctV (l:List In) (k:Nat):Nat:=(vlsL Dk0 (l.take k)).length
theorem take_one {l:List In} {k:Nat} (h:k<l.length):l.take (k+1)=l.take k++[l.getD k default]:=by
 rw [List.take_succ,List.getElem?_eq_getElem h];simp [List.getD,h]
theorem dkA_on {l:List In} {k:Nat} (h:k<l.length):dkA l (k+1)=(insD (dkA l k) (l.getD k default)).2:=by
 unfold dkA
 rw [take_one h,dskL_app];rfl
theorem ctV_on {l:List In} {k:Nat} (h:k<l.length):ctV l (k+1)=ctV l k+(if (insD (dkA l k) (l.getD k default)).1.2=true then 1 else 0):=by
 unfold ctV
 rw [take_one h,vlsL_app,List.length_append]
 congr 1
 show (vlsL (dkA l k) [l.getD k default]).length=_
 rw [vlsL]
 split <;> rfl
theorem ctV_all (l:List In):ctV l l.length=(vlsL Dk0 l).length:=by unfold ctV;rw [List.take_length]
theorem vls_at {l:List In} {k:Nat} (h:k<l.length) (hk:(insD (dkA l k) (l.getD k default)).1.2=true):ctV l k<(vlsL Dk0 l).length∧(vlsL Dk0 l).getD (ctV l k) default=(insD (dkA l k) (l.getD k default)).1.1:=by
 have e:vlsL Dk0 l=vlsL Dk0 (l.take k)++(insD (dkA l k) (l.getD k default)).1.1::vlsL (insD (dkA l k) (l.getD k default)).2 (l.drop (k+1)):=by
  have e1:l=l.take k++l.getD k default::l.drop (k+1):=by
   have:l.getD k default=l[k]:=by simp [List.getD,h]
   rw [this,←List.drop_eq_getElem_cons h,List.take_append_drop]
  conv=>lhs;rw [e1]
  rw [vlsL_app,vlsL]
  show _++(if (insD (dkA l k) (l.getD k default)).1.2=true then _ else _)=_
  rw [if_pos hk];rfl
 unfold ctV
 rw [e]
 exact ⟨by rw [List.length_append,List.length_cons];omega,getD_mid _ _ _ _⟩
theorem vlsB_ins (b:Bk):(vlsB b).ins=vlsL Dk0 b.ins:=by
 unfold vlsB vlsE
 split
 ·rfl
 ·split
  ·split <;> rfl
  ·rfl
theorem vlsP_len (p:Pr):(vlsP p).blks.length=p.blks.length:=by simp [vlsP]
theorem vlsP_at (p:Pr) {n:Nat} (h:n<p.blks.length):(vlsP p).blks.getD n default=vlsB (p.blks.getD n default):=by simp [vlsP,List.getD,h]
theorem vlsB_end (b:Bk):b.a= -1∧((vlsB b).fin=b.fin∧(vlsB b).a=b.a∧(vlsB b).to=b.to∧(vlsB b).els=b.els)∨
  b.a≠ -1∧((vlsB b).fin=b.fin∧(vlsB b).a=(readD (dskL Dk0 b.ins) b.a).1∧(vlsB b).to=b.to∧(vlsB b).els=b.els)∨
  b.a≠ -1∧b.fin=2∧∃ n,(valueD (dskL Dk0 b.ins) b.a).2.num (valueD (dskL Dk0 b.ins) b.a).1=some n∧(vlsB b).fin=1∧(vlsB b).a= -1∧(vlsB b).to=(if n=0 then b.els else b.to)∧(vlsB b).els=0:=by
 unfold vlsB vlsE readD
 dsimp only
 by_cases ha:b.a= -1
 ·rw [if_pos ha];exact .inl ⟨ha,rfl,rfl,rfl,rfl⟩
 ·rw [if_neg ha,if_neg ha]
  by_cases h2:b.fin=2
  ·rw [if_pos h2]
   cases hn:(valueD (dskL Dk0 b.ins) b.a).2.num (valueD (dskL Dk0 b.ins) b.a).1 with
   | none=>exact .inr (.inl ⟨ha,rfl,rfl,rfl,rfl⟩)
   | some n=>exact .inr (.inr ⟨ha,h2,n,rfl,rfl,rfl,rfl,rfl⟩)
  ·rw [if_neg h2];exact .inr (.inl ⟨ha,rfl,rfl,rfl,rfl⟩)
theorem okI_rd {m:Md} {p:Pr} {i:In} (h:okI m p i=true) (hn:0≤i.num∧i.num<4294967296):RdOk p.regs i:=by
 have hop:=ops12 h
 by_cases h9:i.op=9
 ·obtain ⟨-, -, -,hd,ha⟩:=okI_call h h9
  have hab:i.a= -1∧i.b= -1:=by
   unfold okI at h
   simp only [Bool.and_eq_true] at h
   have h:=h.2
   rw [if_pos h9] at h
   simp only [Bool.and_eq_true] at h
   obtain ⟨-,h1,h2⟩:=h
   unfold regF at h1 h2
   simpa using And.intro h1 h2
  rw [List.all_eq_true] at ha
  refine ⟨.inl hab.1,.inl hab.2,fun r hr=>.inr (regF_in (ha r hr)),fun ho=>by omega,fun ho=>by omega,?_,hn⟩
  have e:defI i=i.d:=by unfold defI;rw [if_pos (by omega)]
  rw [e];exact regF_may hd
 ·obtain ⟨hd,ha,hb, -⟩:=okI_regs h h9
  have hargs:i.args=[]:=by
   unfold okI bareF at h
   simp only [Bool.and_eq_true,Bool.or_eq_true,beq_iff_eq,decide_eq_true_eq] at h
   have:=h.1.2.2.2.2.2.2.2.2
   rcases this with e|e
   ·exact absurd e h9
   ·exact List.length_eq_zero_iff.1 e
  refine ⟨regF_may ha,regF_may hb,fun r hr=>(by rw [hargs] at hr;cases hr),fun ho=>?_,fun ho=>?_,?_,hn⟩
  ·have e:readsA i.op=true:=by unfold readsA;simp;omega
   rw [e] at ha;exact (regF_in ha).1
  ·have e:readsB i.op=true:=by unfold readsB;simp;omega
   rw [e] at hb;exact (regF_in hb).1
  ·by_cases ho:i.op≠6∧i.op≠10∧i.op≠12
   ·have e:defI i=i.d:=by unfold defI;rw [if_pos (by omega)]
    rw [e];exact .inr (okI_d h ⟨ho.1,ho.2.1,ho.2.2,h9⟩)
   ·left;unfold defI;rw [if_neg (by omega)]
theorem insD_call {d:Dk} {i:In} (h9:i.op=9):(insD d i).1=((readsD d i).1,true)∧(insD d i).2=if defI i= -1 then turnD (readsD d i).2 9 else haveD (freshD (turnD (readsD d i).2 9)) (defI i) ((turnD (readsD d i).2 9).vs+1):=by
 have ht:toldD (turnD (readsD d i).2 9) (readsD d i).1=(0,turnD (readsD d i).2 9):=toldD_no (by unfold tellsI;rw [show (readsD d i).1.op=i.op from rfl];omega)
 unfold insD
 rw [h9,putD_no (by rw [show (readsD d i).1.op=i.op from rfl];omega)]
 by_cases hd:defI i= -1
 ·rw [if_pos hd,if_pos hd];exact ⟨rfl,rfl⟩
 ·rw [if_neg hd,if_neg hd]
  unfold setsD
  rw [ht,if_pos rfl,defI_reads]
  exact ⟨rfl,rfl⟩
def VlT (m:Md) (p:Pr) (f f':Fr) (mem:List Int):Prop:=f'.b=f.b∧f'.i=ctV (p.blks.getD f.b default).ins f.i∧f'.regs=f.regs∧∃ val,DkI m p f.low p.regs f.regs mem val (dkA (p.blks.getD f.b default).ins f.i)
def VlS (m:Md) (p:Pr) (f f':Fr):Prop:=f'.b=f.b∧f'.i=ctV (p.blks.getD f.b default).ins f.i∧f'.regs=f.regs∧∃ val,∀ mem,DkI m p f.low p.regs f.regs mem val (turnD (readsD (dkA (p.blks.getD f.b default).ins (f.i-1)) ((p.blks.getD f.b default).ins.getD (f.i-1) default)).2 9)
section
variable {m:Md} {n:Nat}
theorem vl_bk (hn:n<m.procs.length) {f f':Fr} (e1:f.n=n) (e2:f'.n=n) (hfb:f'.b=f.b) (hb:f.b<(pk m n).blks.length):fBk (withM m n (vlsP (pk m n))) f'=vlsB (fBk m f):=by
 unfold fBk
 rw [e1,e2,hfb,pk_with _ _ _ hn,vlsP_at _ hb]
theorem vals_rep {inp:List Int} (hok:okM m=true) (hmd:MdOk m) (hiw:∀ x∈inp,0≤x∧x<4294967296) (hn:n<m.procs.length) :
  RepS m inp n (vlsP (pk m n)) (fun f f'=>VlS m (pk m n) f f') (fun f f' s s'=>VlT m (pk m n) f f' s.mem∧s'=s) 1:=by
 have hP:=okM_proc hok hn
 have hH:=okP_head hP
 have bkf:∀ f:Fr,f.n=n→fBk m f=(pk m n).blks.getD f.b default:=fun f e=>by unfold fBk;rw [e]
 have num:∀ f:Fr,f.n=n→f.b<(pk m n).blks.length→∀ k,k<(fBk m f).ins.length→0≤((fBk m f).ins.getD k default).num∧((fBk m f).ins.getD k default).num<4294967296:=fun f e hb k hk=>by
  have h:=mdOkIn hmd (n:=n) hn hb (i:=k) (by rw [←bkf f e];exact hk)
  rw [←bkf f e] at h
  exact h.num
 have okin:∀ f:Fr,f.n=n→f.b<(pk m n).blks.length→∀ k,k<(fBk m f).ins.length→okI m (pk m n) ((fBk m f).ins.getD k default)=true:=fun f e hb k hk=>by
  have:=okB_ins (okP_blk hP hb) (i:=k) (by rw [bkf f e] at hk;exact hk)
  rw [bkf f e];exact this
 refine ⟨Nat.le_refl _,?_,?_,?_,?_,?_,?_⟩
 ·intro args low s ha haw hm
  exact ⟨⟨rfl,rfl,rfl,_,DkI.zero _ _⟩,rfl⟩
 ·rintro f f' s s' r e1 e2 e3 ⟨⟨t1,t2,t3,val,hI⟩,rfl⟩ hG hm hi h9 h
  have hb:f.b<(pk m n).blks.length:=by have:=hG.b;rw [e1] at this;exact this
  have hbk:=vl_bk hn e1 e2 t1 hb
  rw [←bkf f e1] at t2 hI
  have hoki:=okin f e1 hb f.i hi
  have hnum:=num f e1 hb f.i hi
  have hop:=ops12 hoki
  have hwr:=rg_words hG.w
  have hlen:(f.regs.length:Int)=(pk m n).regs:=by have:=hG.r;rw [e1] at this;exact this
  have hsz:(fIn m f).op=5∨(fIn m f).op=6→(fIn m f).size=1∨(fIn m f).size=4:=fun h=>okI_sz hoki h
  have hrw:=rg_words (insM_wd (m:=m) (inp:=inp) (p:=pk m n) (low:=f.low) (i:=fIn m f) hG.w hiw hnum hm.ok (fun h5=>hsz (.inl h5)) r h)
  obtain ⟨v2,g2,gk,gd⟩:=hI.ins hwr (okI_rd hoki hnum) hm ⟨hop.1,hop.2,h9⟩ hsz hlen (fun q=>okI_d hoki ⟨q.1,q.2.1,q.2.2,h9⟩) h hrw
  have hon:=dkA_on (l:=(fBk m f).ins) hi
  have hct:=ctV_on (l:=(fBk m f).ins) hi
  cases hk:(insD (dkA (fBk m f).ins f.i) ((fBk m f).ins.getD f.i default)).1.2
  ·have hrr:=gd hk
   rw [hk] at hct
   refine ⟨0,f',s',Nat.zero_le _,e2,e3,fun K=>rfl,⟨t1,?_,?_,v2,?_⟩,?_⟩
   ·show f'.i=ctV ((pk m n).blks.getD f.b default).ins (f.i+1)
    rw [←bkf f e1,hct,t2];rfl
   ·show f'.regs=r.1
    rw [t3,hrr]
   ·show DkI m (pk m n) f.low (pk m n).regs r.1 r.2.mem v2 (dkA ((pk m n).blks.getD f.b default).ins (f.i+1))
    rw [←bkf f e1,hon];exact g2
   ·rw [hrr]
  ·have hins:=gk hk
   rw [hk] at hct
   have hat:=vls_at hi hk
   refine ⟨1,{ f' with regs:=r.1,i:=f'.i+1 },r.2,Nat.le_refl _,e2,e3,fun K=>?_,⟨t1,?_,rfl,v2,?_⟩,rfl⟩
   ·rw [it_one (fin_on _ _ _)]
    have hin:fIn (withM m n (vlsP (pk m n))) f'=(insD (dkA (fBk m f).ins f.i) ((fBk m f).ins.getD f.i default)).1.1:=by
     unfold fIn
     rw [hbk,vlsB_ins,t2,hat.2]
    have hne:(insD (dkA (fBk m f).ins f.i) ((fBk m f).ins.getD f.i default)).1.1.op≠9:=by
     intro e9
     unfold insD at e9
     split at e9
     ·exact h9 e9
     ·unfold setsD at e9
      split at e9
      ·exact h9 e9
      ·split at e9
       ·exact h9 e9
       ·dsimp only at e9
        unfold outD at e9
        split at e9
        ·exact absurd e9 (by decide:(1:Int)≠9)
        ·split at e9
         ·exact absurd e9 (by decide:(2:Int)≠9)
         ·exact h9 e9
    refine fs_ins ?_ (by rw [hin];exact hne) ?_
    ·rw [hbk,vlsB_ins,t2];have:=hat.1;omega
    ·rw [hin,t3,e2,e3,pk_with _ _ _ hn]
     show insM m inp (vlsP (pk m n)) _ _ _ _=_
     rw [insM_objs m inp (p:=pk m n) (p':=vlsP (pk m n)) rfl]
     exact hins
   ·show f'.i+1=ctV ((pk m n).blks.getD f.b default).ins (f.i+1)
    rw [←bkf f e1,hct,t2];rfl
   ·show DkI m (pk m n) f.low (pk m n).regs r.1 r.2.mem v2 (dkA ((pk m n).blks.getD f.b default).ins (f.i+1))
    rw [←bkf f e1,hon];exact g2
 ·rintro f f' s s' e1 e2 e3 ⟨⟨t1,t2,t3,val,hI⟩,rfl⟩ hG hm hi h9
  have hb:f.b<(pk m n).blks.length:=by have:=hG.b;rw [e1] at this;exact this
  have hbk:=vl_bk hn e1 e2 t1 hb
  rw [←bkf f e1] at t2 hI
  have hoki:=okin f e1 hb f.i hi
  have hnum:=num f e1 hb f.i hi
  have hwr:=rg_words hG.w
  obtain ⟨v1,g1, -, -, -,hargs⟩:=hI.reads hwr (okI_rd hoki hnum)
  have hcall:=insD_call (d:=dkA (fBk m f).ins f.i) (i:=(fBk m f).ins.getD f.i default) h9
  have hk:(insD (dkA (fBk m f).ins f.i) ((fBk m f).ins.getD f.i default)).1.2=true:=by rw [hcall.1]
  have hat:=vls_at hi hk
  have hct:=ctV_on (l:=(fBk m f).ins) hi
  rw [hk] at hct
  have hin:fIn (withM m n (vlsP (pk m n))) f'=(readsD (dkA (fBk m f).ins f.i) ((fBk m f).ins.getD f.i default)).1:=by
   unfold fIn
   rw [hbk,vlsB_ins,t2,hat.2,hcall.1]
  refine ⟨0,f',Nat.le_refl _,e2,e3,fun K=>rfl,fun K=>?_,t1,?_,t3,v1,fun mem=>?_⟩
  ·rw [fs_call (by rw [hbk,vlsB_ins,t2];have:=hat.1;omega) (by rw [hin];exact h9),hin,e3,t3]
   rw [hargs];rfl
  ·show f'.i+1=ctV ((pk m n).blks.getD f.b default).ins (f.i+1)
   rw [←bkf f e1,hct,t2];rfl
  ·show DkI m (pk m n) f.low (pk m n).regs f.regs mem v1 (turnD (readsD (dkA ((pk m n).blks.getD f.b default).ins (f.i+1-1)) (((pk m n).blks.getD f.b default).ins.getD (f.i+1-1) default)).2 9)
   rw [←bkf f e1,Nat.add_sub_cancel]
   exact g1.turn (.inr rfl) mem
 ·rintro f f' v s e1 e2 e3 ⟨t1,t2,t3,val,hI⟩ hU hv hm
  have hG:=hU.g
  have hb:f.b<(pk m n).blks.length:=by have:=hG.b;rw [e1] at this;exact this
  have hbk:=vl_bk hn e1 e2 t1 hb
  rw [←bkf f e1] at t2 hI
  have h9:((fBk m f).ins.getD (f.i-1) default).op=9:=hU.c
  have hi1:=hU.i
  have hlt:f.i-1<(fBk m f).ins.length:=by have:f.i≤(fBk m f).ins.length:=hG.i;omega
  have hoki:=okin f e1 hb _ hlt
  have hcall:=insD_call (d:=dkA (fBk m f).ins (f.i-1)) (i:=(fBk m f).ins.getD (f.i-1) default) h9
  have hk:(insD (dkA (fBk m f).ins (f.i-1)) ((fBk m f).ins.getD (f.i-1) default)).1.2=true:=by rw [hcall.1]
  have hat:=vls_at hlt hk
  have hct:=ctV_on (l:=(fBk m f).ins) hlt
  have hon:=dkA_on (l:=(fBk m f).ins) hlt
  rw [hk,show f.i-1+1=f.i by omega] at hct
  rw [show f.i-1+1=f.i by omega] at hon
  have hct2:f'.i-1=ctV (fBk m f).ins (f.i-1):=by rw [t2,hct];simp
  have hdin:((fBk (withM m n (vlsP (pk m n))) f').ins.getD (f'.i-1) default).d=((fBk m f).ins.getD (f.i-1) default).d:=by
   rw [hbk,vlsB_ins,hct2,hat.2,hcall.1];rfl
  have hdef:defI ((fBk m f).ins.getD (f.i-1) default)=((fBk m f).ins.getD (f.i-1) default).d:=by unfold defI;rw [if_pos (by omega)]
  have hq:=retF_eq m f v
  have hq':=retF_eq (withM m n (vlsP (pk m n))) f' v
  have hlen:(f.regs.length:Int)=(pk m n).regs:=by have:=hG.r;rw [e1] at this;exact this
  have er:(retF m f v).regs=if ((fBk m f).ins.getD (f.i-1) default).d≠ -1 then f.regs.set ((fBk m f).ins.getD (f.i-1) default).d.toNat v else f.regs:=by
   show (if ((fBk m f).ins.getD (f.i-1) default).d≠ -1 then ({ f with regs:=f.regs.set ((fBk m f).ins.getD (f.i-1) default).d.toNat v }:Fr) else f).regs=_
   split <;> rfl
  have er':(retF (withM m n (vlsP (pk m n))) f' v).regs=if ((fBk m f).ins.getD (f.i-1) default).d≠ -1 then f.regs.set ((fBk m f).ins.getD (f.i-1) default).d.toNat v else f.regs:=by
   show (if ((fBk (withM m n (vlsP (pk m n))) f').ins.getD (f'.i-1) default).d≠ -1 then ({ f' with regs:=f'.regs.set ((fBk (withM m n (vlsP (pk m n))) f').ins.getD (f'.i-1) default).d.toNat v }:Fr) else f').regs=_
   rw [hdin]
   split
   ·show f'.regs.set _ _=_;rw [t3]
   ·exact t3
  refine ⟨⟨by rw [hq.2.2.1,hq'.2.2.1,t1],by rw [hq.2.2.1,hq.2.2.2,hq'.2.2.2,←bkf f e1];exact t2,by rw [er,er'],?_⟩,rfl⟩
  rw [hq.2.2.1,hq.2.2.2,hq.2.1,er,←bkf f e1,hon,hcall.2,hdef]
  by_cases hd:((fBk m f).ins.getD (f.i-1) default).d= -1
  ·rw [if_pos hd,if_neg (fun h=>h hd)]
   exact ⟨val,hI s.mem⟩
  ·rw [if_neg hd,if_pos hd]
   have hd0:0≤((fBk m f).ins.getD (f.i-1) default).d∧((fBk m f).ins.getD (f.i-1) default).d<(pk m n).regs:=by
    have:=(okI_call hoki h9).2.2.2.1
    rcases regF_may this with e|e
    ·exact absurd e hd
    ·exact e
   have hf:=(hI s.mem).fresh hv
   have hvs:=(hI s.mem).b.vs
   have hw:=hf.1.write hd0 hlen (v:=(turnD (readsD (dkA (fBk m f).ins (f.i-1)) ((fBk m f).ins.getD (f.i-1) default)).2 9).vs+1) ⟨by omega,Int.le_refl _⟩
   rw [updI_same] at hw
   exact ⟨_,hw⟩
 ·rintro f f' s s' e1 e2 e3 ⟨⟨t1,t2,t3,val,hI⟩,rfl⟩ hG hm hi h3
  have hb:f.b<(pk m n).blks.length:=by have:=hG.b;rw [e1] at this;exact this
  have hbk:=vl_bk hn e1 e2 t1 hb
  have hB:=okP_blk hP hb
  have hE:=end_cases (okB_end hB)
  rw [←bkf f e1] at t2 hI hE
  rw [hi] at hI t2
  have hwr:=rg_words hG.w
  have hend:=vlsB_end (fBk m f)
  have hdk:dkA (fBk m f).ins (fBk m f).ins.length=dskL Dk0 (fBk m f).ins:=by unfold dkA;rw [List.take_length]
  rw [hdk] at hI
  have hnx:(fNext (withM m n (vlsP (pk m n))) f').b=(fNext m f).b∧(fBk (withM m n (vlsP (pk m n))) f').fin≠3:=by
   unfold fNext
   rw [hbk,t3]
   rcases hend with ⟨-,a1,a2,a3,a4⟩|⟨ha,a1,a2,a3,a4⟩|⟨ha,h2,x,hx,a2,a3,a4,a5⟩
   ·rw [a1,a2,a3,a4];exact ⟨rfl,h3⟩
   ·rw [a1,a2,a3,a4]
    have hab:0≤(fBk m f).a∧(fBk m f).a<(pk m n).regs∨(fBk m f).fin≠2:=by omega
    refine ⟨?_,h3⟩
    by_cases h2:(fBk m f).fin=2
    ·obtain ⟨v1, -, -,x1⟩:=hI.read hwr (r:=(fBk m f).a) (.inr (by omega))
     rw [x1]
    ·rw [if_neg (fun q=>h2 q.1),if_neg (fun q=>h2 q.1)]
   ·obtain ⟨v1,g1, -,x1⟩:=hI.value (r:=(fBk m f).a) (by omega) (hwr _)
    have hxx:=g1.num _ _ hx
    rw [x1] at hxx
    rw [a2,a4,hxx]
    refine ⟨?_,by decide⟩
    rw [if_neg (fun h=>absurd h.1 (by decide))]
    by_cases ez:x=0
    ·rw [if_pos ez,if_pos ⟨h2,ez⟩]
    ·rw [if_neg ez,if_neg (fun h=>ez h.2)]
  refine ⟨1,fNext (withM m n (vlsP (pk m n))) f',s',Nat.le_refl _,e2,e3,fun K=>?_,⟨hnx.1,rfl,t3,_,DkI.zero _ _⟩,rfl⟩
  rw [it_one (fin_on _ _ _),fs_end (by rw [hbk,vlsB_ins,t2,ctV_all]) hnx.2]
 ·rintro f f' s s' e1 e2 e3 ⟨⟨t1,t2,t3,val,hI⟩,rfl⟩ hG hm hi h3
  have hb:f.b<(pk m n).blks.length:=by have:=hG.b;rw [e1] at this;exact this
  have hbk:=vl_bk hn e1 e2 t1 hb
  have hB:=okP_blk hP hb
  have hE:=end_cases (okB_end hB)
  rw [←bkf f e1] at t2 hI hE
  rw [hi] at hI t2
  have hwr:=rg_words hG.w
  have hend:=vlsB_end (fBk m f)
  have hdk:dkA (fBk m f).ins (fBk m f).ins.length=dskL Dk0 (fBk m f).ins:=by unfold dkA;rw [List.take_length]
  rw [hdk] at hI
  rcases hend with ⟨-,a1,a2,a3,a4⟩|⟨ha,a1,a2,a3,a4⟩|⟨ha,h2, -⟩
  ·refine ⟨0,f',Nat.le_refl _,fun K=>rfl,fun K=>?_⟩
   rw [fs_ret (by rw [hbk,vlsB_ins,t2,ctV_all]) (by rw [hbk,a1];exact h3),hbk,a2,t3]
  ·have har:0≤(fBk m f).a∧(fBk m f).a<(pk m n).regs:=by omega
   obtain ⟨v1, -, -,x1⟩:=hI.read hwr (r:=(fBk m f).a) (.inr har)
   have hne:=(hI.b.read (r:=(fBk m f).a) (.inr har)).2
   refine ⟨0,f',Nat.le_refl _,fun K=>rfl,fun K=>?_⟩
   rw [fs_ret (by rw [hbk,vlsB_ins,t2,ctV_all]) (by rw [hbk,a1];exact h3),hbk,a2,t3,if_pos (by omega),if_pos ha,x1]
  ·omega
end
end Go.Proofs.YtkhfddodmjnecaaGreatDoor
