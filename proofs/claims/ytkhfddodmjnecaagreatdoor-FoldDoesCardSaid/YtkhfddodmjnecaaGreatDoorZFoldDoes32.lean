/-
Functions of words that are one of their operands, or that may swap them; what lies where a word was put. Plain.
-/
import Derived.Test.YtkhfddodmjnecaaGreatDoorZFoldDoes31
set_option linter.all false
namespace Go.Proofs.YtkhfddodmjnecaaGreatDoor
section
structure Ky where
 op:Int
 fn:Int
 a:Int
 b:Int
 obj:Int
 off:Int
 size:Int
 num:Int
 mem:Int
theorem Ky.eq_iff (x y:Ky):(x.op=y.op∧x.fn=y.fn∧x.a=y.a∧x.b=y.b∧x.obj=y.obj∧x.off=y.off∧x.size=y.size∧x.num=y.num∧x.mem=y.mem)↔x=y:=by
 constructor
 ·obtain ⟨a,b,c,d,e,f,g,h,i⟩:=x
  obtain ⟨a',b',c',d',e',f',g',h',i'⟩:=y
  rintro ⟨h1,h2,h3,h4,h5,h6,h7,h8,h9⟩
  dsimp only at h1 h2 h3 h4 h5 h6 h7 h8 h9
  subst h1 h2 h3 h4 h5 h6 h7 h8 h9
  rfl
 ·rintro rfl
  exact ⟨rfl,rfl,rfl,rfl,rfl,rfl,rfl,rfl,rfl⟩
instance:DecidableEq Ky:=fun x y=>decidable_of_iff _ (Ky.eq_iff x y)
structure Dk where
 of:Int→Option Int
 ky:Ky→Option Int
 num:Int→Option Int
 fs:Int→List Int
 vs:Int
 mm:Int
def updI {β:Type} (M:Int→β) (x:Int) (y:β):Int→β:=fun z=>if z=x then y else M z
theorem updI_same {β:Type} (M:Int→β) (x:Int) (y:β):updI M x y x=y:=if_pos rfl
theorem updI_other {β:Type} (M:Int→β) {x z:Int} (y:β) (h:z≠x):updI M x y z=M z:=if_neg h
def Dk0:Dk:=⟨fun _=>none,fun _=>none,fun _=>none,fun _=>[],0,0⟩
def haveD (d:Dk) (r v:Int):Dk:=⟨updI d.of r (some v),d.ky,d.num,updI d.fs v (d.fs v++[r]),d.vs,d.mm⟩
def freshD (d:Dk):Dk:=⟨d.of,d.ky,d.num,d.fs,d.vs+1,d.mm⟩
def valueD (d:Dk) (r:Int):Int×Dk:=match d.of r with
 | some v=>(v,d)
 | none=>(d.vs+1,haveD (freshD d) r (d.vs+1))
def holderD (d:Dk) (v:Int):Int:=((d.fs v).find? fun r=>(d.of r).getD 0 ==v).getD (-1)
def readD (d:Dk) (r:Int):Int×Dk:=if r= -1 then (r,d) else (holderD (valueD d r).2 (valueD d r).1,(valueD d r).2)
def setKy (d:Dk) (k:Ky) (v:Int):Dk:=⟨d.of,fun x=>if x=k then some v else d.ky x,d.num,d.fs,d.vs,d.mm⟩
def namedD (d:Dk) (k:Ky):Int×Dk:=match d.ky k with
 | some v=>(v,d)
 | none=>(d.vs+1,setKy (freshD d) k (d.vs+1))
def setNum (d:Dk) (v n:Int):Dk:=⟨d.of,d.ky,updI d.num v (some n),d.fs,d.vs,d.mm⟩
def kyC (n:Int):Ky:=⟨1,0,0,0,0,0,0,n,0⟩
def constD (d:Dk) (n:Int):Int×Dk:=((namedD d (kyC n)).1,setNum (namedD d (kyC n)).2 (namedD d (kyC n)).1 n)
def swapsF (fn:Int):Bool:=decide (fn=1∨fn=3∨fn=6∨fn=7∨fn=8∨fn=11∨fn=12)
def sameD (d:Dk) (fn a b:Int):Int :=
 if d.num b=some 0∧(fn=1∨fn=2∨fn=7∨fn=8∨fn=9∨fn=10) then a
 else if d.num b=some 1∧(fn=3∨fn=4) then a
 else if d.num a=some 0∧(fn=1∨fn=7∨fn=8) then b
 else if d.num a=some 1∧fn=3 then b
 else if a=b∧(fn=6∨fn=7) then a
 else 0
def kyB (fn a b:Int):Ky:=⟨3,fn,a,b,0,0,0,0,0⟩
def twoN (d:Dk) (fn a b:Int):Int×Dk :=
 if 0<sameD d fn a b then (sameD d fn a b,d)
 else if a=b∧(fn=2∨fn=8) then constD d 0
 else if swapsF fn=true∧b<a then namedD d (kyB fn b a)
 else namedD d (kyB fn a b)
def twoD (d:Dk) (fn a b:Int):Int×Dk:=match d.num a with
 | some m=>(match d.num b with
  | some n=>constD d (fnF fn m n)
  | none=>twoN d fn a b)
 | none=>twoN d fn a b
def kyL (a off size mem:Int):Ky:=⟨5,0,a,0,0,off,size,0,mem⟩
def liesD (d:Dk) (i:In):Ky×Dk:=(kyL (valueD d i.a).1 i.off i.size (valueD d i.a).2.mm,(valueD d i.a).2)
def kyU (fn a:Int):Ky:=⟨4,fn,a,0,0,0,0,0,0⟩
def kyP (op obj off:Int):Ky:=⟨op,0,0,0,obj,off,0,0,0⟩
def unD (d:Dk) (fn a:Int):Int×Dk:=match d.num a with
 | some n=>constD d (fnF fn n 0)
 | none=>namedD d (kyU fn a)
def toldD (d:Dk) (i:In):Int×Dk :=
 if i.op=1 then constD d i.num
 else if i.op=2 then valueD d i.a
 else if i.op=3 then twoD (valueD (valueD d i.a).2 i.b).2 i.fn (valueD d i.a).1 (valueD (valueD d i.a).2 i.b).1
 else if i.op=4 then unD (valueD d i.a).2 i.fn (valueD d i.a).1
 else if i.op=7∨i.op=8 then namedD d (kyP i.op i.obj i.off)
 else if i.op=5 then namedD (liesD d i).2 (liesD d i).1
 else (0,d)
def readL (d:Dk):List Int→List Int×Dk
 | []=>([],d)
 | r::l=>((readD d r).1::(readL (readD d r).2 l).1,(readL (readD d r).2 l).2)
def readsD (d:Dk) (i:In):In×Dk :=
 (⟨i.op,i.d,(readD d i.a).1,(readD (readD d i.a).2 i.b).1,i.fn,i.obj,i.off,i.size,i.num,(readL (readD (readD d i.a).2 i.b).2 i.args).1,i.log⟩,(readL (readD (readD d i.a).2 i.b).2 i.args).2)
def turnD (d:Dk) (op:Int):Dk:=if op=6∨op=9 then ⟨d.of,d.ky,d.num,d.fs,d.vs,d.mm+1⟩ else d
def putD (d:Dk) (i:In):Dk:=if i.op=6∧i.size=4 then setKy (valueD (liesD d i).2 i.b).2 (liesD d i).1 (valueD (liesD d i).2 i.b).1 else d
def copyI (d a:Int):In:=⟨2,d,a, -1,0,0,0,0,0,[],false⟩
def outD (d:Dk) (i:In) (v:Int):In:=match d.num v with
 | some n=>constI (defI i) n
 | none=>if holderD d v≠ -1 then copyI (defI i) (holderD d v) else i
def setsD (d:Dk) (i:In):(In×Bool)×Dk :=
 if (toldD d i).1=0 then ((i,true),haveD (freshD (toldD d i).2) (defI i) ((toldD d i).2.vs+1))
 else if ((toldD d i).2.of (defI i)).getD 0=(toldD d i).1 then ((i,false),(toldD d i).2)
 else ((outD (toldD d i).2 i (toldD d i).1,true),haveD (toldD d i).2 (defI i) (toldD d i).1)
def insD (d:Dk) (i:In):(In×Bool)×Dk :=
 if defI i= -1 then (((readsD d i).1,true),putD (turnD (readsD d i).2 i.op) (readsD d i).1)
 else setsD (putD (turnD (readsD d i).2 i.op) (readsD d i).1) (readsD d i).1
def vlsL:Dk→List In→List In
 | _,[]=>[]
 | d,i::l=>if (insD d i).1.2=true then (insD d i).1.1::vlsL (insD d i).2 l else vlsL (insD d i).2 l
def dskL:Dk→List In→Dk
 | d,[]=>d
 | d,i::l=>dskL (insD d i).2 l
def vlsE (d:Dk) (b:Bk):Bk :=
 if b.a= -1 then b
 else if b.fin=2 then (match (valueD d b.a).2.num (valueD d b.a).1 with
  | some n=>jmpB b n
  | none=>⟨b.ins,b.fin,holderD (valueD d b.a).2 (valueD d b.a).1,b.to,b.els⟩)
 else ⟨b.ins,b.fin,holderD (valueD d b.a).2 (valueD d b.a).1,b.to,b.els⟩
def vlsB (b:Bk):Bk:=vlsE (dskL Dk0 b.ins) ⟨vlsL Dk0 b.ins,b.fin,b.a,b.to,b.els⟩
def vlsP (p:Pr):Pr:=⟨p.void,p.params,p.regs,p.objs,p.blks.map vlsB⟩
end
section
structure DkB (R:Int) (d:Dk):Prop where
 vs:0≤d.vs
 of:∀ r v,d.of r=some v→(0≤r∧r<R)∧1≤v∧v≤d.vs
 fs:∀ r v,d.of r=some v→r∈d.fs v
 ky:∀ k v,d.ky k=some v→1≤v∧v≤d.vs
 num:∀ v n,d.num v=some n→(1≤v∧v≤d.vs)∧0≤n∧n<4294967296
theorem DkB.zero (R:Int):DkB R Dk0:=⟨Int.le_refl _,fun r v h=>(by cases h),fun r v h=>(by cases h),fun k v h=>(by cases h),fun v n h=>(by cases h)⟩
theorem DkB.fresh {R:Int} {d:Dk} (h:DkB R d):DkB R (freshD d):=by
 have hv:(freshD d).vs=d.vs+1:=rfl
 refine ⟨by have:=h.vs;omega,fun r v e=>?_,h.fs,fun k v e=>?_,fun v n e=>?_⟩
 ·have:=h.of r v e;omega
 ·have:=h.ky k v e;omega
 ·have:=h.num v n e;omega
theorem DkB.have {R:Int} {d:Dk} (h:DkB R d) {r v:Int} (hr:0≤r∧r<R) (hv:1≤v∧v≤d.vs):DkB R (haveD d r v):=by
 refine ⟨h.vs,fun x y e=>?_,fun x y e=>?_,h.ky,h.num⟩
 ·have e:updI d.of r (some v) x=some y:=e
  by_cases hx:x=r
  ·subst hx
   rw [updI_same] at e
   cases e
   exact ⟨hr,hv⟩
  ·rw [updI_other _ _ hx] at e
   exact h.of x y e
 ·have e:updI d.of r (some v) x=some y:=e
  show x∈updI d.fs v (d.fs v++[r]) y
  by_cases hx:x=r
  ·subst hx
   rw [updI_same] at e
   cases e
   rw [updI_same];simp
  ·rw [updI_other _ _ hx] at e
   have:=h.fs x y e
   by_cases hy:y=v
   ·subst hy;rw [updI_same];exact List.mem_append_left _ this
   ·rw [updI_other _ _ hy];exact this
theorem valueD_some {d:Dk} {r v:Int} (h:d.of r=some v):valueD d r=(v,d):=by unfold valueD;rw [h]
theorem valueD_none {d:Dk} {r:Int} (h:d.of r=none):valueD d r=(d.vs+1,haveD (freshD d) r (d.vs+1)):=by unfold valueD;rw [h]
theorem DkB.value {R:Int} {d:Dk} (h:DkB R d) {r:Int} (hr:0≤r∧r<R):DkB R (valueD d r).2∧(1≤(valueD d r).1∧(valueD d r).1≤(valueD d r).2.vs)∧(valueD d r).2.of r=some (valueD d r).1:=by
 cases e:d.of r with
 | some v=>
  rw [valueD_some e]
  exact ⟨h,(h.of r v e).2,e⟩
 | none=>
  rw [valueD_none e]
  have:=h.vs
  have hf:=h.fresh.have hr (v:=d.vs+1) ⟨by omega,Int.le_refl _⟩
  exact ⟨hf,⟨by dsimp only;omega,Int.le_refl _⟩,updI_same _ _ _⟩
theorem DkB.holder {R:Int} {d:Dk} (h:DkB R d) {v:Int} (hv:1≤v):holderD d v= -1∨d.of (holderD d v)=some v:=by
 unfold holderD
 cases e:(d.fs v).find? fun r=>(d.of r).getD 0 ==v with
 | none=>exact .inl rfl
 | some r=>
  right
  have:=List.find?_some e
  rw [beq_iff_eq] at this
  show d.of r=some v
  cases h2:d.of r with
  | none=>rw [h2] at this;simp at this;omega
  | some u=>rw [h2] at this;simp at this;rw [this]
theorem DkB.held {R:Int} {d:Dk} (h:DkB R d) {r v:Int} (hr:d.of r=some v):d.of (holderD d v)=some v:=by
 have hv:=(h.of r v hr).2
 rcases h.holder hv.1 with e|e
 ·exfalso
  have hm:=h.fs r v hr
  have h0:=(h.of r v hr).1
  unfold holderD at e
  cases e2:(d.fs v).find? fun r=>(d.of r).getD 0 ==v with
  | none=>
   rw [List.find?_eq_none] at e2
   have:=e2 r hm
   rw [hr] at this
   simp at this
  | some x=>
   rw [e2] at e
   have e:x= -1:=e
   have:=List.find?_some e2
   rw [beq_iff_eq] at this
   cases h2:d.of x with
   | none=>rw [h2] at this;simp at this;omega
   | some u=>have:=(h.of x u h2).1;omega
 ·exact e
theorem DkB.read {R:Int} {d:Dk} (h:DkB R d) {r:Int} (hr:r= -1∨0≤r∧r<R):DkB R (readD d r).2∧(r= -1∧(readD d r).1= -1∨r≠ -1∧0≤(readD d r).1∧(readD d r).1<R):=by
 unfold readD
 by_cases e:r= -1
 ·rw [if_pos e];exact ⟨h,.inl ⟨e,e⟩⟩
 ·rw [if_neg e]
  have hv:=h.value (r:=r) (by omega)
  have:=hv.1.held hv.2.2
  exact ⟨hv.1,.inr ⟨e,(hv.1.of _ _ this).1⟩⟩
theorem DkB.setKy {R:Int} {d:Dk} (h:DkB R d) {v:Int} (hv:1≤v∧v≤d.vs) (k:Ky):DkB R (setKy d k v):=by
 refine ⟨h.vs,h.of,h.fs,fun x y e=>?_,h.num⟩
 have e:(if x=k then some v else d.ky x)=some y:=e
 split at e
 ·cases e;exact hv
 ·exact h.ky x y e
theorem DkB.setNum {R:Int} {d:Dk} (h:DkB R d) {v n:Int} (hv:1≤v∧v≤d.vs) (hn:0≤n∧n<4294967296):DkB R (setNum d v n):=by
 refine ⟨h.vs,h.of,h.fs,h.ky,fun x y e=>?_⟩
 have e:updI d.num v (some n) x=some y:=e
 by_cases hx:x=v
 ·subst hx;rw [updI_same] at e;cases e;exact ⟨hv,hn⟩
 ·rw [updI_other _ _ hx] at e;exact h.num x y e
def DkV (R:Int) (q:Int×Dk):Prop:=DkB R q.2∧1≤q.1∧q.1≤q.2.vs
theorem namedD_some {d:Dk} {k:Ky} {v:Int} (h:d.ky k=some v):namedD d k=(v,d):=by unfold namedD;rw [h]
theorem namedD_none {d:Dk} {k:Ky} (h:d.ky k=none):namedD d k=(d.vs+1,Go.Proofs.YtkhfddodmjnecaaGreatDoor.setKy (freshD d) k (d.vs+1)):=by unfold namedD;rw [h]
theorem DkB.named {R:Int} {d:Dk} (h:DkB R d) (k:Ky):DkV R (namedD d k):=by
 cases e:d.ky k with
 | some v=>rw [namedD_some e];exact ⟨h,h.ky k v e⟩
 | none=>
  rw [namedD_none e]
  have:=h.vs
  exact ⟨h.fresh.setKy (v:=d.vs+1) ⟨by omega,Int.le_refl _⟩ k,by dsimp only;omega,Int.le_refl _⟩
theorem DkB.const {R:Int} {d:Dk} (h:DkB R d) {n:Int} (hn:0≤n∧n<4294967296):DkV R (constD d n):=by
 have hk:=h.named (kyC n)
 exact ⟨hk.1.setNum hk.2 hn,hk.2⟩
theorem DkB.twoN {R:Int} {d:Dk} (h:DkB R d) (fn:Int) {a b:Int} (ha:1≤a∧a≤d.vs) (hb:1≤b∧b≤d.vs):DkV R (twoN d fn a b):=by
 unfold Go.Proofs.YtkhfddodmjnecaaGreatDoor.twoN
 split
 ·refine ⟨h,?_⟩
  dsimp only
  unfold sameD at *
  split
  ·exact ha
  ·split
   ·exact ha
   ·split
    ·exact hb
    ·split
     ·exact hb
     ·split
      ·exact ha
      ·rename_i h0 h1 h2 h3 h4 h5
       rw [if_neg h1,if_neg h2,if_neg h3,if_neg h4,if_neg h5] at h0
       omega
 ·split
  ·exact h.const ⟨by decide,by decide⟩
  ·split
   ·exact h.named _
   ·exact h.named _
theorem DkB.two {R:Int} {d:Dk} (h:DkB R d) (fn:Int) {a b:Int} (ha:1≤a∧a≤d.vs) (hb:1≤b∧b≤d.vs):DkV R (twoD d fn a b):=by
 unfold twoD
 cases e1:d.num a with
 | none=>exact h.twoN fn ha hb
 | some m=>
  cases e2:d.num b with
  | none=>exact h.twoN fn ha hb
  | some n=>
   have h1:=(h.num a m e1).2
   have h2:=(h.num b n e2).2
   exact h.const (fnF_bd _ _ _ h1.1 h1.2 h2.1 h2.2)
theorem DkB.un {R:Int} {d:Dk} (h:DkB R d) (fn a:Int):DkV R (unD d fn a):=by
 unfold unD
 cases e1:d.num a with
 | none=>exact h.named _
 | some n=>
  have h1:=(h.num a n e1).2
  exact h.const (fnF_bd _ _ _ h1.1 h1.2 (by decide) (by decide))
theorem DkB.more {R:Int} {d:Dk} (h:DkB R d) {r:Int} (hr:0≤r∧r<R):d.vs≤(valueD d r).2.vs:=by
 cases e:d.of r with
 | some v=>rw [valueD_some e];exact Int.le_refl _
 | none=>rw [valueD_none e];show d.vs≤d.vs+1;omega
structure RdOk (R:Int) (i:In):Prop where
 a:i.a= -1∨0≤i.a∧i.a<R
 b:i.b= -1∨0≤i.b∧i.b<R
 args:∀ r∈i.args,r= -1∨0≤r∧r<R
 useA:i.op=2∨i.op=3∨i.op=4∨i.op=5∨i.op=6→0≤i.a
 useB:i.op=3∨i.op=6→0≤i.b
 d:defI i= -1∨0≤defI i∧defI i<R
 num:0≤i.num∧i.num<4294967296
theorem DkB.told {R:Int} {d:Dk} (h:DkB R d) {i:In} (hi:RdOk R i):DkB R (toldD d i).2∧((toldD d i).1=0∨1≤(toldD d i).1∧(toldD d i).1≤(toldD d i).2.vs):=by
 have fin:∀ q:Int×Dk,DkV R q→DkB R q.2∧(q.1=0∨1≤q.1∧q.1≤q.2.vs):=fun q hq=>⟨hq.1,.inr hq.2⟩
 have ha:=hi.a
 have hb:=hi.b
 have ua:=hi.useA
 have ub:=hi.useB
 unfold toldD
 by_cases h1:i.op=1
 ·rw [if_pos h1];exact fin _ (h.const hi.num)
 rw [if_neg h1]
 by_cases h2:i.op=2
 ·rw [if_pos h2]
  have hv:=h.value (r:=i.a) (by omega)
  exact fin _ ⟨hv.1,hv.2.1⟩
 rw [if_neg h2]
 by_cases h3:i.op=3
 ·rw [if_pos h3]
  have hv:=h.value (r:=i.a) (by omega)
  have hw:=hv.1.value (r:=i.b) (by omega)
  have hm:=hv.1.more (r:=i.b) (by omega)
  exact fin _ (hw.1.two _ ⟨hv.2.1.1,by omega⟩ hw.2.1)
 rw [if_neg h3]
 by_cases h4:i.op=4
 ·rw [if_pos h4]
  have hv:=h.value (r:=i.a) (by omega)
  exact fin _ (hv.1.un _ _)
 rw [if_neg h4]
 by_cases h7:i.op=7∨i.op=8
 ·rw [if_pos h7];exact fin _ (h.named _)
 rw [if_neg h7]
 by_cases h5:i.op=5
 ·rw [if_pos h5]
  have hv:=h.value (r:=i.a) (by omega)
  exact fin _ (hv.1.named _)
 rw [if_neg h5]
 exact ⟨h,.inl rfl⟩
theorem DkB.readL {R:Int}:∀ (l:List Int) {d:Dk},DkB R d→(∀ r∈l,r= -1∨0≤r∧r<R)→DkB R (readL d l).2∧(∀ r∈(readL d l).1,r= -1∨0≤r∧r<R)∧(readL d l).1.length=l.length
 | [],d,h,_=>⟨h,fun r hr=>(by cases hr),rfl⟩
 | r::l,d,h,hl=>by
  have h1:=h.read (hl r List.mem_cons_self)
  have h2:=DkB.readL l h1.1 (fun x hx=>hl x (List.mem_cons_of_mem _ hx))
  refine ⟨h2.1,fun x hx=>?_,by simp [Go.Proofs.YtkhfddodmjnecaaGreatDoor.readL,h2.2.2]⟩
  rcases List.mem_cons.1 hx with e|hx
  ·rcases h1.2 with ⟨-,e2⟩|⟨-,e2⟩
   ·exact .inl (e.trans e2)
   ·exact .inr (by rw [e];exact e2)
  ·exact h2.2.1 x hx
theorem defI_reads (d:Dk) (i:In):defI (readsD d i).1=defI i:=rfl
theorem DkB.reads {R:Int} {d:Dk} (h:DkB R d) {i:In} (hi:RdOk R i):DkB R (readsD d i).2∧RdOk R (readsD d i).1∧((readsD d i).1.a= -1↔i.a= -1)∧((readsD d i).1.b= -1↔i.b= -1):=by
 have ha:=h.read hi.a
 have hb:=ha.1.read hi.b
 have hl:=DkB.readL i.args hb.1 hi.args
 have e1:(readsD d i).1.a=(readD d i.a).1:=rfl
 have e2:(readsD d i).1.b=(readD (readD d i.a).2 i.b).1:=rfl
 have ua:=hi.useA
 have ub:=hi.useB
 refine ⟨hl.1,⟨by rw [e1];omega,by rw [e2];omega,hl.2.1,fun ho=>?_,fun ho=>?_,hi.d,hi.num⟩,by rw [e1];omega,by rw [e2];omega⟩
 ·have ho:i.op=2∨i.op=3∨i.op=4∨i.op=5∨i.op=6:=ho
  rw [e1];omega
 ·have ho:i.op=3∨i.op=6:=ho
  rw [e2];omega
theorem DkB.turn {R:Int} {d:Dk} (h:DkB R d) (op:Int):DkB R (turnD d op):=by
 unfold turnD
 split
 ·exact ⟨h.vs,h.of,h.fs,h.ky,h.num⟩
 ·exact h
theorem DkB.put {R:Int} {d:Dk} (h:DkB R d) {i:In} (hi:RdOk R i):DkB R (putD d i):=by
 unfold putD
 split
 ·rename_i ho
  have ua:=hi.useA
  have ub:=hi.useB
  have ha:=hi.a
  have hb:=hi.b
  have hv:=h.value (r:=i.a) (by omega)
  have hw:=hv.1.value (r:=i.b) (by omega)
  exact hw.1.setKy hw.2.1 _
 ·exact h
theorem DkB.sets {R:Int} {d:Dk} (h:DkB R d) {i:In} (hi:RdOk R i) (hd:defI i≠ -1):DkB R (setsD d i).2:=by
 have ht:=h.told hi
 have hdd:=hi.d
 unfold setsD
 split
 ·have:=ht.1.vs
  exact ht.1.fresh.have (by omega) ⟨by omega,Int.le_refl _⟩
 ·split
  ·exact ht.1
  ·rename_i h0 _
   exact ht.1.have (by omega) (by omega)
theorem DkB.ins {R:Int} {d:Dk} (h:DkB R d) {i:In} (hi:RdOk R i):DkB R (insD d i).2:=by
 have hr:=h.reads hi
 have hp:=(hr.1.turn i.op).put hr.2.1
 unfold insD
 split
 ·exact hp
 ·exact hp.sets hr.2.1 (by rw [defI_reads];assumption)
theorem DkB.dsk {R:Int}:∀ (l:List In) {d:Dk},DkB R d→(∀ i∈l,RdOk R i)→DkB R (dskL d l)
 | [],d,h,_=>h
 | i::l,d,h,hl=>DkB.dsk l (h.ins (hl i List.mem_cons_self)) fun j hj=>hl j (List.mem_cons_of_mem _ hj)
end
section
theorem bits_comm (k:IntKind) (x y:Int):bits .and k x y=bits .and k y x∧bits .or k x y=bits .or k y x∧bits .xor k x y=bits .xor k y x:=by
 refine ⟨?_,?_,?_⟩
 ·show k.wrap ((BitVec.ofInt k.bits x &&& BitVec.ofInt k.bits y).toNat:Int)=k.wrap ((BitVec.ofInt k.bits y &&& BitVec.ofInt k.bits x).toNat:Int)
  rw [BitVec.and_comm]
 ·show k.wrap ((BitVec.ofInt k.bits x ||| BitVec.ofInt k.bits y).toNat:Int)=k.wrap ((BitVec.ofInt k.bits y ||| BitVec.ofInt k.bits x).toNat:Int)
  rw [BitVec.or_comm]
 ·show k.wrap ((BitVec.ofInt k.bits x ^^^ BitVec.ofInt k.bits y).toNat:Int)=k.wrap ((BitVec.ofInt k.bits y ^^^ BitVec.ofInt k.bits x).toNat:Int)
  rw [BitVec.xor_comm]
theorem word_back (x:Int) (h:0≤x∧x<4294967296):IntKind.u32.wrap ((BitVec.ofInt 32 x).toNat:Int)=x:=by
 have e:((BitVec.ofInt 32 x).toNat:Int)=x:=by
  rw [BitVec.toNat_ofInt]
  rw [Int.toNat_of_nonneg (Int.emod_nonneg _ (by decide))]
  exact Int.emod_eq_of_lt h.1 h.2
 rw [e]
 show x % 4294967296=x
 exact Int.emod_eq_of_lt h.1 h.2
theorem bits_zero (x:Int) (h:0≤x∧x<4294967296):bits .or .u32 x 0=x∧bits .xor .u32 x 0=x:=by
 constructor
 ·show IntKind.u32.wrap ((BitVec.ofInt 32 x ||| BitVec.ofInt 32 0).toNat:Int)=x
  rw [show BitVec.ofInt 32 0=0#32 from by decide,BitVec.or_zero]
  exact word_back x h
 ·show IntKind.u32.wrap ((BitVec.ofInt 32 x ^^^ BitVec.ofInt 32 0).toNat:Int)=x
  rw [show BitVec.ofInt 32 0=0#32 from by decide,BitVec.xor_zero]
  exact word_back x h
theorem bits_self (x:Int) (h:0≤x∧x<4294967296):bits .and .u32 x x=x∧bits .or .u32 x x=x∧bits .xor .u32 x x=0:=by
 refine ⟨?_,?_,?_⟩
 ·show IntKind.u32.wrap ((BitVec.ofInt 32 x &&& BitVec.ofInt 32 x).toNat:Int)=x
  rw [BitVec.and_self];exact word_back x h
 ·show IntKind.u32.wrap ((BitVec.ofInt 32 x ||| BitVec.ofInt 32 x).toNat:Int)=x
  rw [BitVec.or_self];exact word_back x h
 ·show IntKind.u32.wrap ((BitVec.ofInt 32 x ^^^ BitVec.ofInt 32 x).toNat:Int)=0
  rw [BitVec.xor_self];decide
theorem fnF_swap {fn:Int} (h:swapsF fn=true) (a b:Int):fnF fn a b=fnF fn b a:=by
 unfold swapsF at h
 have h:=of_decide_eq_true h
 have hc:=bits_comm .u32 a b
 rcases h with rfl|rfl|rfl|rfl|rfl|rfl|rfl
 ·show (a+b) % 4294967296=(b+a) % 4294967296;rw [Int.add_comm]
 ·show (a*b) % 4294967296=(b*a) % 4294967296;rw [Int.mul_comm]
 ·show bits .and .u32 a b=bits .and .u32 b a;exact hc.1
 ·show bits .or .u32 a b=bits .or .u32 b a;exact hc.2.1
 ·show bits .xor .u32 a b=bits .xor .u32 b a;exact hc.2.2
 ·show bitF (a ==b)=bitF (b ==a);rw [show (a ==b)=(b ==a) from Bool.eq_iff_iff.2 (by simp only [beq_iff_eq];exact eq_comm)]
 ·show bitF (a !=b)=bitF (b !=a);rw [show (a !=b)=(b !=a) from Bool.eq_iff_iff.2 (by simp only [bne_iff_ne];exact ne_comm)]
theorem word_mod {a:Int} (h:0≤a∧a<4294967296):a % 4294967296=a:=Int.emod_eq_of_lt h.1 h.2
theorem sg_modW {a:Int} (h:0≤a∧a<4294967296):sg a % 4294967296=a:=by unfold sg;split <;> omega
theorem fnF_zero {fn:Int} (h:fn=1∨fn=2∨fn=7∨fn=8∨fn=9∨fn=10) {a:Int} (ha:0≤a∧a<4294967296):fnF fn a 0=a:=by
 have hb:=bits_zero a ha
 rcases h with rfl|rfl|rfl|rfl|rfl|rfl
 ·show (a+0) % 4294967296=a;rw [Int.add_zero];exact word_mod ha
 ·show (a-0) % 4294967296=a;rw [Int.sub_zero];exact word_mod ha
 ·show bits .or .u32 a 0=a;exact hb.1
 ·show bits .xor .u32 a 0=a;exact hb.2
 ·show shl32 a 0=a
  unfold shl32
  rw [show ((2:Int) ^ ((0:Int) % 32).toNat)=1 from by decide,Int.mul_one];exact word_mod ha
 ·show sar32 a 0=a
  unfold sar32
  rw [show ((2:Int) ^ ((0:Int) % 32).toNat)=1 from by decide,Int.ediv_one];exact sg_modW ha
theorem fnF_one {fn:Int} (h:fn=3∨fn=4) {a:Int} (ha:0≤a∧a<4294967296):fnF fn a 1=a:=by
 rcases h with rfl|rfl
 ·show (a*1) % 4294967296=a;rw [Int.mul_one];exact word_mod ha
 ·show divS a 1=a
  unfold divS
  rw [if_neg (by decide),show sg 1=1 from by decide,Int.tdiv_one];exact sg_modW ha
theorem fnF_left {fn:Int} (h:fn=1∨fn=7∨fn=8) {b:Int} (hb:0≤b∧b<4294967296):fnF fn 0 b=b:=by
 rw [fnF_swap (by unfold swapsF;exact decide_eq_true (by omega))]
 exact fnF_zero (by omega) hb
theorem fnF_left1 {b:Int} (hb:0≤b∧b<4294967296):fnF 3 1 b=b:=by
 rw [fnF_swap (by decide)]
 exact fnF_one (.inl rfl) hb
theorem fnF_both {fn:Int} (h:fn=6∨fn=7) {a:Int} (ha:0≤a∧a<4294967296):fnF fn a a=a:=by
 have hb:=bits_self a ha
 rcases h with rfl|rfl
 ·exact hb.1
 ·exact hb.2.1
theorem fnF_none {fn:Int} (h:fn=2∨fn=8) {a:Int} (ha:0≤a∧a<4294967296):fnF fn a a=0:=by
 rcases h with rfl|rfl
 ·show (a-a) % 4294967296=0;rw [Int.sub_self];rfl
 ·exact (bits_self a ha).2.2
theorem storeP_get (mem:List Int) (n:Nat) (v:Int):∀ k j,j<k→n+j<mem.length→(storeP mem n v k).getD (n+j) 0=v / 256 ^ j % 256
 | 0,j,h,_=>absurd h (Nat.not_lt_zero _)
 | k+1,j,h,hl=>by
  rw [storeP]
  simp only [List.getD,List.getElem?_set,storeP_len]
  by_cases e:k=j
  ·subst e
   rw [if_pos rfl,if_pos hl];rfl
  ·rw [if_neg (by omega)]
   exact storeP_get mem n v k j (by omega) hl
theorem load_store (mem:List Int) (n:Nat) (v:Int) (hv:0≤v∧v<4294967296) (hl:n+4≤mem.length):loadP (storeP mem n v 4) n 4=v:=by
 have g:=fun j (h:j<4)=>storeP_get mem n v 4 j h (by omega)
 show ((((0+_*256 ^ 0)+_*256 ^ 1)+_*256 ^ 2)+_*256 ^ 3)=v
 rw [g 0 (by decide),g 1 (by decide),g 2 (by decide),g 3 (by decide)]
 rw [show (256:Int) ^ 0=1 from rfl,show (256:Int) ^ 1=256 from rfl,show (256:Int) ^ 2=65536 from by decide,show (256:Int) ^ 3=16777216 from by decide]
 omega
end
end Go.Proofs.YtkhfddodmjnecaaGreatDoor
