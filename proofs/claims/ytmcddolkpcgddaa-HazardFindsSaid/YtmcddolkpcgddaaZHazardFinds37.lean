/-
 alias: New.
-/
import Derived.Test.YtmcddolkpcgddaaZHazardFinds36
set_option maxHeartbeats 4000000
set_option maxRecDepth 100000
set_option linter.all false
namespace Go.Proofs.Ytmcddolkpcgddaa
open Go.ChangeShapes Go.WideShapes Go.ChangeAt Go.RowKit
theorem qsi:(Try.prog.info? 128).map (fun i=>(i.zero,i.size,i.bytes))=some (some (.agg #[.int .i64 0,.int .i64 0,.int .i64 0,.bool false]),4,32):=by kernel_rfl
def sp0:Sp:=⟨0,0,0,false⟩
theorem qp7 (N:Nat):(madeCells #[.int .i64 0,.int .i64 0,.int .i64 0,.bool false] (N*4)).toList=(List.replicate N sp0).flatMap qbo:=by
 apply List.ext_getElem?
 intro i
 have hl:((List.replicate N sp0).flatMap qbo).length=N*4:=by rw [qga qbo 4 (fun _=>rfl)];simp
 by_cases hi:i<N*4
 ·have e:i=i / 4*4+i % 4:=by omega
  have h4:i % 4<4:=Nat.mod_lt _ (by decide)
  conv=>rhs;rw [e]
  rw [qtv _ _ _ (by simp;omega) h4]
  have e2:(List.replicate N sp0).getD (i / 4) default=sp0:=by
   have:i / 4<N:=by omega
   simp [List.getD,List.getElem?_replicate,this]
  rw [e2]
  have e3:(madeCells #[.int .i64 0,.int .i64 0,.int .i64 0,.bool false] (N*4)).toList[i]?=some ((#[Value.int .i64 0,.int .i64 0,.int .i64 0,.bool false]:Array Value)[i % 4]!):=by
   simp [madeCells,hi]
  rw [e3]
  generalize i % 4=j at *
  match j,h4 with
  | 0,_=>rfl
  | 1,_=>rfl
  | 2,_=>rfl
  | 3,_=>rfl
 ·rw [List.getElem?_eq_none (by rw [Array.length_toList,size_madeCells];omega),List.getElem?_eq_none (by rw [hl];omega)]
theorem qr8 (N:Nat) (hN:N≤1000) (w:World):(Instr.makeSlice 120 (.int .i64 (N:Int)) (.int .i64 (N:Int))).run Try.prog w=.ok (.slice (some ⟨w.heap.size,0,none⟩) N N) (w.alloc (.cells (madeCells #[.int .i64 0,.int .i64 0,.int .i64 0,.bool false] (N*4)) 128)):=by
 have hi:=qsi
 cases hx:Try.prog.info? 128 with
 | none=>rw [hx] at hi;cases hi
 | some i=>
  rw [hx] at hi
  simp only [Option.map_some,Option.some.injEq,Prod.mk.injEq] at hi
  obtain ⟨h1,h2,h3⟩:=hi
  have:=run_make (P:=Try.prog) w 120 128 i _ Try.underlying120 hx h1 .i64 .i64 (N:Int) (N:Int) (by omega) (by omega) (by rw [h3];omega) (by omega)
  simp only [Int.toNat_natCast,h2] at this
  exact this
theorem qld (o t:Nat):qhg o (t+1)=if o≤t then qhg o t ||| (1 <<< t) else qhg o t:=by unfold qhg;rw [List.range_succ,List.foldl_append];rfl
theorem qnt (o:Nat):∀ t,t≤o→qhg o t=0
 | 0,_=>rfl
 | t+1,h=>by rw [qld,if_neg (by omega),qnt o t (by omega)]
def qdw (P:Pr) (OUT r:Nat):List Nat:=(List.range r).map fun i:Nat=>if (i:Int)<P.params then OUT else 0
def spS (P:Pr) (N r:Nat):List Sp:=(List.range N).map fun i:Nat=>if i<r∧(i:Int)<P.params then (⟨0,0,1,false⟩:Sp) else sp0
theorem qqv (P:Pr) (OUT r:Nat):(qdw P OUT r).length=r:=by simp [qdw]
theorem qr0 {P:Pr} {OUT r:Nat} (h:(r:Int)<P.params):(qdw P OUT r++[0]).set r OUT=qdw P OUT (r+1):=by
 unfold qdw
 rw [List.range_succ,List.map_append,List.set_append_right _ _ (by simp)]
 simp [h]
theorem qvo {P:Pr} {OUT r:Nat} (h:¬ (r:Int)<P.params):qdw P OUT r++[0]=qdw P OUT (r+1):=by
 unfold qdw
 rw [List.range_succ,List.map_append]
 simp [h]
theorem q2u (P:Pr) (N:Nat):List.replicate N sp0=spS P N 0:=by
 unfold spS
 apply List.ext_getElem
 ·simp
 ·intro i h1 h2;simp
theorem q1s {P:Pr} {N r:Nat} (h:¬ (r:Int)<P.params):spS P N (r+1)=spS P N r:=by
 unfold spS
 refine List.map_congr_left fun i _=>?_
 by_cases e:i=r
 ·subst e;rw [if_neg (fun q=>h q.2),if_neg (fun q=>h q.2)]
 ·by_cases q:(i:Int)<P.params
  ·by_cases q2:i<r
   ·rw [if_pos ⟨by omega,q⟩,if_pos ⟨q2,q⟩]
   ·rw [if_neg (fun z=>by omega),if_neg (fun z=>q2 z.1)]
  ·rw [if_neg (fun z=>q z.2),if_neg (fun z=>q z.2)]
theorem qzb {P:Pr} {N r:Nat} (h:(r:Int)<P.params):(spS P N r).set r ⟨0,0,1,false⟩=spS P N (r+1):=by
 unfold spS
 apply List.ext_getElem
 ·simp
 ·intro i h1 h2
  simp only [List.getElem_set,List.getElem_map,List.getElem_range]
  by_cases e:r=i
  ·subst e;rw [if_pos rfl,if_pos ⟨by omega,h⟩]
  ·rw [if_neg e]
   by_cases q:(i:Int)<P.params
   ·by_cases q2:i<r
    ·rw [if_pos ⟨q2,q⟩,if_pos ⟨by omega,q⟩]
    ·rw [if_neg (fun z=>q2 z.1),if_neg (fun z=>by omega)]
   ·rw [if_neg (fun z=>q z.2),if_neg (fun z=>q z.2)]
theorem qw5 {P:Pr} {N r:Nat} (h:r<N):(spS P N r).getD r default=sp0:=by
 unfold spS
 simp [List.getD,h]
def VwK.with (k:VwK) (bs:List Nat) (vR:Value):VwK:=⟨k.p,k.nm,k.vo,k.vb,k.T,k.N,k.bv,k.bO,bs,vR,k.vS⟩
theorem VwK.eta (k:VwK) (h1:k.bs=[]) (h2:k.vR=.slice none 0 0):k=k.with [] (.slice none 0 0):=by
 cases k;simp only at h1 h2;subst h1;subst h2;rfl
theorem qp1 {α β:Type} (l:List β) (a:α):l.foldl (fun a _=>a) a=a:=by induction l <;> simp_all
def q3a (m:Md) (P:Pr) (w:World) (e:Ending) (w':World):Prop:=∃ (k:VwK) (x:AS) (sp:List Sp),
 e=.returned (.tuple #[.pointer (some ⟨k.bv,0,none⟩),.int .i64 0])∧VwM w w' k x sp∧k.p=P∧k.bs.length=P.regs.toNat∧k.T=P.objs.length+m.globs.length+1∧x.End P k.T∧(∀ c∈qeh P,c.holds x.sem)∧(∀ r,r<P.regs.toNat→sp.getD r default=spP P r)∧k.N=P.regs.toNat
theorem qlr {P:Pr} {N r:Nat} (h:r<N):(spS P N N).getD r default=⟨0,0,if (r:Int)<P.params then 1 else 0,false⟩:=by
 unfold spS
 simp only [List.getD,List.getElem?_map,List.getElem?_range h,Option.map_some,Option.getD_some]
 by_cases e:(r:Int)<P.params
 ·rw [if_pos ⟨h,e⟩,if_pos e]
 ·rw [if_neg (fun z=>e z.2),if_neg e];rfl
theorem q2s (m:Md) (vm:Value) (n:Nat) (w:World) (hm:MdV w vm m) (hn:n<m.procs.length) (hN:(m.procs.getD n default).regs≤40) (hN0:0≤(m.procs.getD n default).regs) (ho:(m.procs.getD n default).objs.length≤20) (hg:m.globs.length≤20) (hpl:m.procs.length≤1000)
  (hok:okP m (m.procs.getD n default)=true) (hpr:quq (m.procs.getD n default)) (hbl:(m.procs.getD n default).blks.length≤40∧∀ b∈(m.procs.getD n default).blks,b.ins.length≤1000∧∀ i∈b.ins,i.args.length≤12) :
  Calls Try.prog 33 #[vm,.int .i64 (n:Int)] w (q3a m (m.procs.getD n default) w):=by
 have HOK:=qkm hok
 have HPR:=qkm hpr
 have HBL:=qkm hbl
 clear hok hpr hbl
 obtain ⟨vg,vd,vp,rfl,hvg,hvd,hvp⟩:=hm
 obtain ⟨ap,cp,rfl,hp1,hp2, -⟩:=id hvp
 obtain ⟨ag,cg,rfl,hg1,hg2, -⟩:=id hvg
 unfold maxLen at hp2 hg2
 have HPS:=qkm (qcx.at6 hvp).2
 clear hvg hvd hvp
 obtain ⟨bp,op,tnm,tvo,tvb,hap,hto,htb,t0,t1,t2,t3,t4,t5⟩:=HPS.out n hn
 subst hap
 generalize m.procs.getD n default=P at *
 clear HPS
 obtain ⟨N,hNN⟩:∃ N:Nat,P.regs=N:=⟨P.regs.toNat,by omega⟩
 have HNN:=qkm hNN
 rw [hNN] at t3 hN
 have hN40:N≤40:=by omega
 have hmk:=qr8 N (by omega)
 have HTO:=qkm hto
 have HTB:=qkm htb
 obtain ⟨ao,co,rfl,ho1,ho2, -⟩:=hto
 obtain ⟨ab,cb,rfl, -⟩:=htb
 unfold maxLen at ho2
 have g1:decide ((n:Int)<(m.procs.length:Int))=true:=qkn (by omega)
 have g2:decide (n<m.procs.length)=true:=qkn hn
 have g3:decide ((m.procs.length:Int)≤(n:Int))=false:=qko (by omega)
 have g4:decide (m.procs.length≤n)=false:=qko (by omega)
 have lbp:=World.block_lt_of_cell? w _ t0
 clear hN hN0 hNN
 go_enter Try.func33,Try.ntmps33
 obtain ⟨W1,hW1⟩:∃ W1,W1=qbj w [.cells #[.slice ag m.globs.length cg,vd,.slice (some ⟨bp,op,none⟩) m.procs.length cp,.int .i64 m.main] 26,.cells #[.string tnm,.bool P.void,.int .i64 P.params,.int .i64 (N:Int),.slice ao P.objs.length co,.slice ab P.blks.length cb] 32]:=⟨_,rfl⟩
 have B1:Hid (Below w.heap.size w W1):=by rw [hW1];exact qa0 _ _
 have H0:Hid (W1.heap[w.heap.size]?=some (.cells #[.slice ag m.globs.length cg,vd,.slice (some ⟨bp,op,none⟩) m.procs.length cp,.int .i64 m.main] 26 (0,0))):=by rw [hW1];exact qai _ w 0 (by simp)
 have H1:Hid (W1.heap[w.heap.size+1]?=some (.cells #[.string tnm,.bool P.void,.int .i64 P.params,.int .i64 (N:Int),.slice ao P.objs.length co,.slice ab P.blks.length cb] 32 (0,0))):=by rw [hW1];exact qai _ w 1 (by simp)
 have hz1:W1.heap.size=w.heap.size+2:=by rw [hW1,qb9];simp
 have HW1:Hid ((w.alloc (.cells #[.slice ag m.globs.length cg,vd,.slice (some ⟨bp,op,none⟩) m.procs.length cp,.int .i64 m.main] 26)).alloc (.cells #[.string tnm,.bool P.void,.int .i64 P.params,.int .i64 (N:Int),.slice ao P.objs.length co,.slice ab P.blks.length cb] 32)=W1):=hW1.symm
 clear hW1
 obtain ⟨y0,y1,y2,y3,l0⟩:=cl4 H0.out
 obtain ⟨z0,z1,z2,z3,z4,z5,l1⟩:=cl6 H1.out
 go_upto_region 4 with (fail)
 rw [HW1.out]
 obtain ⟨T,hT⟩:∃ T:Nat,(P.objs.length:Int)+(m.globs.length:Int)+1=(T:Int):=⟨P.objs.length+m.globs.length+1,by omega⟩
 have hT1:1≤T∧T≤41:=by omega
 go_region
 go_upto_region 5 with (fail)
 have HT:=qkm hT
 clear hT hmk y0 y1 y2 y3 z0 z1 z2 z3 z4 z5
 obtain ⟨W2,hW2⟩:∃ W2,W2=((W1.alloc (.cells (madeCells #[.int .i64 0,.int .i64 0,.int .i64 0,.bool false] (N*4)) 128)).alloc (.cells #[.string tnm,.bool P.void,.int .i64 P.params,.int .i64 (N:Int),.slice ao P.objs.length co,.slice ab P.blks.length cb,.int .i64 (T:Int),.slice none 0 0,.slice none 0 0,.slice (some ⟨w.heap.size+2,0,none⟩) N N] 124)).drew:=⟨_,rfl⟩
 rw [←hW2]
 have B12:Below W1.heap.size W1 W2:=by rw [hW2];exact (((qaa W1 _).alloc (by simp) _)).drew
 have hz2:W2.heap.size=w.heap.size+4:=by rw [hW2];simp [hz1]
 have HS:Hid (W2.heap[w.heap.size+2]?=some (.cells (madeCells #[.int .i64 0,.int .i64 0,.int .i64 0,.bool false] (N*4)) 128 (0,0))):=by
  show _=_
  rw [hW2,←hz1]
  exact (((qaa _ _).drew).block W1.heap.size (by simp)).trans (heap_alloc_new W1 _)
 have HV:Hid (W2.heap[w.heap.size+3]?=some (.cells #[.string tnm,.bool P.void,.int .i64 P.params,.int .i64 (N:Int),.slice ao P.objs.length co,.slice ab P.blks.length cb,.int .i64 (T:Int),.slice none 0 0,.slice none 0 0,.slice (some ⟨w.heap.size+2,0,none⟩) N N] 124 (0,0))):=by
  show _=_
  rw [hW2]
  have:=heap_alloc_new (W1.alloc (.cells (madeCells #[.int .i64 0,.int .i64 0,.int .i64 0,.bool false] (N*4)) 128)) (.cells #[.string tnm,.bool P.void,.int .i64 P.params,.int .i64 (N:Int),.slice ao P.objs.length co,.slice ab P.blks.length cb,.int .i64 (T:Int),.slice none 0 0,.slice none 0 0,.slice (some ⟨w.heap.size+2,0,none⟩) N N] 124)
  rw [World.size_alloc,hz1] at this
  exact this
 have H0:=qkm ((B12.block _ l0).trans H0.out)
 have H1:=qkm ((B12.block _ l1).trans H1.out)
 have B2:=qkm (B1.out.trans (B12.mono B1.out.size))
 rw [show w.heap.size+2+1=w.heap.size+3 from rfl]
 clear hW2 B12 HW1 B1 l0 l1 hz1
 have c6:=qab HV.out 6
 have lv:=(qkp HV.out).1
 simp only [qkc,qke,qkd] at c6
 go_wp2_with fail
 refine (q1b _ T W2 c6 hT1.1 (by omega)).mono ?_
 rintro e w3 ⟨rfl,hr3,hb3⟩
 have HV3:=qkm ((hb3.block _ lv).trans HV.out)
 have hb3z:=hb3.size
 have c8:=qab HV3.out 8
 have f8:=qac HV3.out 8
 simp only [qkc,qke,qkd] at c8
 unfold slW
 go_upto_region 6 with (fail)
 rw [hz2] at hr3
 obtain ⟨k0,hk0⟩:∃ k0:VwK,k0=⟨P,tnm,.slice ao P.objs.length co,.slice ab P.blks.length cb,T,N,w.heap.size+3,w.heap.size+4,[],.slice none 0 0,.slice (some ⟨w.heap.size+2,0,none⟩) N N⟩:=⟨_,rfl⟩
 obtain ⟨W4,hW4⟩:∃ W4,W4=w3.setCell ⟨w.heap.size+3,8,none⟩ (.slice (some ⟨w.heap.size+4,0,none⟩) 1 1):=⟨_,rfl⟩
 rw [←hW4]
 have K4:But (w.heap.size+3) w3 W4:=by rw [hW4];exact But.setCell _ _ _ _
 have hz3:=hb3.size
 have V4:Hid (VwM w W4 k0 ⟨[],0⟩ (List.replicate N sp0)):=by
  rw [hk0]
  have B34:Below w.heap.size w W4:=(B2.out.trans (hb3.mono B2.out.size)).trans (K4.toBelow (by omega) (by omega))
  refine ⟨⟨tnm,_,_,rfl,HTO.out,HTB.out⟩,?_,World.ownsRow_nil _ _ _ _,fun r hr=>absurd hr (Nat.not_lt_zero _),⟨?_,by decide⟩,?_,rfl,by simp,Nat.zero_le _,fun i j hi=>absurd hi (Nat.not_lt_zero _),fun i hi=>absurd hi (Nat.not_lt_zero _),⟨by dsimp only;omega,by dsimp only;omega,fun i hi=>absurd hi (Nat.not_lt_zero _)⟩,B34⟩
  ·dsimp only [VwK.cells]
   rw [hW4,HNN.out]
   exact heap_setCell_same _ _ 8 _ _ _ HV3.out
  ·exact (K4.block _ hr3.lt (by omega)).trans hr3
  ·dsimp only
   have hs:W4.heap[w.heap.size+2]?=some (.cells (madeCells #[.int .i64 0,.int .i64 0,.int .i64 0,.bool false] (N*4)) 128 (0,0)):=(K4.block _ (by omega) (by omega)).trans ((hb3.block _ (by omega)).trans HS.out)
   have hl:=qp7 N
   refine ⟨?_,.inr ⟨w.heap.size+2,N,_,rfl,by omega,hs,Nat.le_refl _,by unfold maxLen;omega,by rw [size_madeCells],?_⟩⟩
   ·rw [qga qbo 4 (fun _=>rfl)];simp
   ·rw [hl]
    exact List.take_of_length_le (by rw [qga qbo 4 (fun _=>rfl)];simp)
 have H1:Hid (W4.heap[w.heap.size+1]?=some (.cells #[.string tnm,.bool P.void,.int .i64 P.params,.int .i64 (N:Int),.slice ao P.objs.length co,.slice ab P.blks.length cb] 32 (0,0))):=(K4.block _ (by omega) (by omega)).trans ((hb3.block _ (by omega)).trans H1.out)
 have hz4:w.heap.size+5≤W4.heap.size:=by have:=K4.size;have:=hr3.lt;omega
 clear hW4 K4 hb3 hr3 HV3 HV HS c6 c8 f8 B2 H0 hz3 hb3z hz2 lv
 obtain ⟨z0,z1,z2,z3,z4,z5,l1⟩:=cl6 H1.out
 have k0v:Hid (k0.bv=w.heap.size+3∧k0.bO=w.heap.size+4∧k0.T=T∧k0.N=N∧k0.p=P∧k0.bs=[]∧k0.vR=.slice none 0 0∧k0.vS=.slice (some ⟨w.heap.size+2,0,none⟩) N N):=by rw [hk0];exact ⟨rfl,rfl,rfl,rfl,rfl,rfl,rfl,rfl⟩
 clear hk0
 have hw8:W4.cell? ⟨w.heap.size+3,8,none⟩=some (slW (w.heap.size+4)):=by
  have:=qab V4.out.hv 8
  rw [k0v.out.1] at this
  rw [this]
  show some (slW k0.bO)=_
  rw [k0v.out.2.1]
 have hw6:W4.cell? ⟨w.heap.size+3,6,none⟩=some (.int .i64 (T:Int)):=by
  have:=qab V4.out.hv 6
  rw [k0v.out.1] at this
  rw [this]
  show some (Value.int .i64 (k0.T:Int))=_
  rw [k0v.out.2.2.1]
 unfold slW at hw8
 have hto:=HT.out
 have hoT:P.objs.length≤T:=by omega
 clear hw8 hw6
 go_wp2_with fail
 go_loopw [8] (fun i wr=>∃ t:Nat,P.objs.length≤t∧t≤T∧i=.int .i64 (t:Int)∧Hid (VwM w wr k0 ⟨[],qhg P.objs.length t⟩ (List.replicate N sp0))∧Hid (wr.heap[w.heap.size+1]?=some (.cells #[.string tnm,.bool P.void,.int .i64 P.params,.int .i64 (N:Int),.slice ao P.objs.length co,.slice ab P.blks.length cb] 32 (0,0)))) (fun i _=>T-(intOf i).toNat)
 case atStart=>exact ⟨P.objs.length,Nat.le_refl _,hoT,rfl,by rw [qnt _ _ (Nat.le_refl _)];exact V4,H1⟩
 case round=>
  clear V4 H1 z0 z1 z2 z3 z4 z5 l1 hz4
  obtain ⟨t,ht1,ht2,rfl,V,H1⟩:=hrel
  have w6:=qab V.out.hv 6
  have w8:=qab V.out.hv 8
  have e6:(k0.cells.toArray)[6]?=some (.int .i64 (T:Int)):=by show some (Value.int .i64 (k0.T:Int))=_;rw [k0v.out.2.2.1]
  have e8:(k0.cells.toArray)[8]?=some (.slice (some ⟨w.heap.size+4,0,none⟩) 1 1):=by show some (slW k0.bO)=_;rw [k0v.out.2.1];rfl
  rw [e6,k0v.out.1] at w6
  rw [e8,k0v.out.1] at w8
  clear e6 e8
  have lv:=V.out.lv
  rw [k0v.out.1] at lv
  by_cases hlt:t<T
  ·have gt:decide ((t:Int)<(T:Int))=true:=qkn (by omega)
   have HA:=qkm ((qld P.objs.length t).trans (if_pos ht1))
   have hr4:=V.out.out
   rw [k0v.out.2.1] at hr4
   go_wp2_with fail
   refine (qzr (w.heap.size+4) _ t wr hr4.1 hr4.2 (by omega)).mono ?_
   rintro e w5 ⟨rfl,hr5,hb5⟩
   have H5:=qkm ((hb5.block _ (qkp H1.out).1 (by omega)).trans H1.out)
   have V5:Hid (VwM w w5 k0 ⟨[],qhg P.objs.length (t+1)⟩ (List.replicate N sp0)):=by
    have h:=(V.out.setOut (y:=qhg P.objs.length (t+1)) (w':=w5) (by rw [HA.out];exact Nat.or_lt_two_pow hr4.2 (qsl (by omega))) (by rw [k0v.out.2.1];exact hb5) (by rw [k0v.out.2.1,HA.out];exact hr5)).1
    exact h
   clear hr5 hb5 V H1 hr4 w6 w8
   go_wp2_with fail
   go_roundw
   case rel=>exact ⟨t+1,by omega,hlt,by go_num,V5,H5⟩
   case measure=>simp [intOf];omega
  ·obtain rfl:t=T:=by omega
   obtain ⟨z0,z1,z2,z3,z4,z5,l1⟩:=cl6 H1.out
   go_wp2_with fail
   clear w6 w8 z0 z1 z2 z3 z4 z5
   have V0:Hid (VwM w wr (k0.with [] (.slice none 0 0)) ⟨qdw P (qhg P.objs.length t) 0,qhg P.objs.length t⟩ (spS P N 0)):=by
    have h:=V.out
    rw [q2u P N] at h
    rw [←VwK.eta k0 k0v.out.2.2.2.2.2.1 k0v.out.2.2.2.2.2.2.1]
    exact h
   clear V
   generalize hOUT:qhg P.objs.length t=OUT at *
   have HOUT:=qkm hOUT
   clear hOUT
   go_loopw [62] (fun i wr=>∃ (r:Nat) (bs:List Nat) (vR:Value),r≤N∧bs.length=r∧i=.int .i64 (r:Int)∧Hid (VwM w wr (k0.with bs vR) ⟨qdw P OUT r,OUT⟩ (spS P N r))∧Hid (wr.heap[w.heap.size+1]?=some (.cells #[.string tnm,.bool P.void,.int .i64 P.params,.int .i64 (N:Int),.slice ao P.objs.length co,.slice ab P.blks.length cb] 32 (0,0)))) (fun i _=>N-(intOf i).toNat)
   case atStart=>exact ⟨0,[],_,Nat.zero_le _,rfl,rfl,V0,H1⟩
   case round=>
    clear V0 H1 l1
    obtain ⟨r,bs,vR,hrN,hbl,rfl,V,H1⟩:=hrel
    by_cases hlt:r<N
    ·have gr:decide ((r:Int)<(N:Int))=true:=qkn (by omega)
     obtain ⟨ar,cr,hvR⟩:∃ a c,vR=.slice a r c:=by
      have h:=V.out.own
      have e:(k0.with bs vR).bs.length=r:=hbl
      rw [e] at h
      obtain ⟨a,c,h2⟩:=qa6 h
      exact ⟨a,c,h2⟩
     subst hvR
     go_upto_region 13 with (fail)
     refine qae (fun b=>b=w.heap.size+3) (by kernel_rfl) ?_
     obtain ⟨W2,hW2⟩:∃ W2,W2=wr.drew:=⟨_,rfl⟩
     have hb5:Below wr.heap.size wr W2:=by rw [hW2];exact (Below.refl _ _).drew
     first|rw [←hW2]|rw [show (⟨wr.heap,wr.tape,wr.drawn+1,wr.os,wr.output⟩:World)=W2 from hW2.symm]
     have H1:=qkm ((hb5.block _ (qkp H1.out).1).trans H1.out)
     have V:=qkm (V.out.grow hb5)
     clear hW2 hb5
     have w6:=qab V.out.hv 6
     have w7:=qab V.out.hv 7
     have e6:((k0.with bs (.slice ar r cr)).cells.toArray)[6]?=some (.int .i64 (t:Int)):=by show some (Value.int .i64 (k0.T:Int))=_;rw [k0v.out.2.2.1]
     have e7:((k0.with bs (.slice ar r cr)).cells.toArray)[7]?=some (.slice ar r cr):=rfl
     have ebv:(k0.with bs (.slice ar r cr)).bv=w.heap.size+3:=k0v.out.1
     rw [e6,ebv] at w6
     rw [e7,ebv] at w7
     have lv:=V.out.lv
     rw [ebv] at lv
     clear e6 e7
     refine qaf [0,1,2,3,4,5] _ _ _ _ (by kernel_rfl) ?_
     simp only [qka,qkb,qkc,qkd,qke,qkf,qkg,qkh,qki,Nat.reduceAdd,Nat.reduceSub]
     repeat (go_big_quiet_step (fail))
     refine wpQuiet_nil ?_
     refine qag 6 _ rfl (by kernel_rfl) ?_
     simp only [qkj,qkk,qkl]
     go_wp2_with fail
     refine (q1b _ t W2 w6 hT1.1 (by omega)).mono ?_
     rintro e w3 ⟨rfl,hr3,hb3⟩
     unfold slW
     go_wp2_with fail
     refine ⟨qdx hb3 (fun b hb=>by rw [hb];exact lv),?_⟩
     have ls3:=hb3.size
     have H3:=qkm ((hb3.block _ (qkp H1.out).1).trans H1.out)
     have V3:=qkm (V.out.grow hb3)
     have hnm:=qkm (V.out.notMine (Nat.le_refl W2.heap.size))
     have hr3:Hid (qd4 w3 W2.heap.size 0):=hr3
     have hws:w.heap.size≤W2.heap.size:=V.out.below.size
     clear hb3 V H1 w6
     refine qag 7 _ rfl (by kernel_rfl) ?_
     simp only [qkj,qkk,qkl]
     go_wp2_with fail
     have l3:w.heap.size+3<w3.heap.size:=by omega
     refine ⟨qdx (qaa _ _) (fun b hb=>by rw [hb];exact l3),?_⟩
     refine qag 8 _ rfl (by kernel_rfl) ?_
     simp only [qkj,qkk,qkl]
     have hb4:=qaa w3 (.cells #[slW W2.heap.size] 122)
     have hcn:=qho w3 [slW W2.heap.size] 122 w3.heap.size rfl
     have hWA:w3.alloc (.cells #[.slice (some ⟨W2.heap.size,0,none⟩) 1 1] 122)=w3.alloc (.cells [slW W2.heap.size].toArray 122):=rfl
     rw [hWA]
     have V4:=qkm (V3.out.grow hb4)
     have H4:=qkm ((hb4.block _ (qkp H3.out).1).trans H3.out)
     have hr4:Hid (qd4 (w3.alloc (.cells [slW W2.heap.size].toArray 122)) W2.heap.size 0):=(hb4.block _ hr3.out.lt).trans hr3.out
     have ls4:=hb4.size
     have hW4:w3.alloc (.cells #[slW W2.heap.size] 122)=w3.alloc (.cells [slW W2.heap.size].toArray 122):=rfl
     rw [hW4] at V4 H4 ls4
     generalize w3.alloc (.cells [slW W2.heap.size].toArray 122)=W4' at *
     clear hb4 V3 H3 hr3 hWA hW4
     have hown:=V4.out.own
     have ebl:(k0.with bs (.slice ar r cr)).bs.length=r:=hbl
     rw [ebl] at hown
     refine q12 121 122 qts Try.underlying121 rfl (by decide) (by decide) [slW W2.heap.size] rfl (fun u hu=>by simp only [List.mem_cons,List.not_mem_nil,or_false] at hu;subst hu;rfl) hown rfl rfl rfl rfl hcn (by omega) (by omega) ?_
     intro v7 w7 O7 G7 D7
     obtain ⟨a7,c7,rfl⟩:=qa6 O7
     have V7:Hid (VwM w (w7.setCell ⟨w.heap.size+3,7,none⟩ (.slice a7 (r+1) c7)) (k0.with (bs++[W2.heap.size]) (.slice a7 (r+1) c7)) ⟨qdw P OUT r++[0],OUT⟩ (spS P N r)):=by
      have h:=V4.out.push (g:=W2.heap.size) (w':=w7) (v':=.slice a7 (r+1) c7) hr4.out hws (by rw [ebv];omega) hnm.out (by rw [ebl];show r+1≤k0.N;rw [k0v.out.2.2.2.1];omega) (by rw [ebl];exact O7) G7 D7
      show VwM _ _ _ _ _
      rw [←ebv]
      exact h
     have hno3:∀ b,b≤w.heap.size+3→b=w.heap.size+1∨b=w.heap.size+3→(Value.slice ar r cr).ownBlock≠some b:=fun b _ hb=>by
      rcases hb with rfl|rfl
      ·exact ne_row V4.out.own H4.out (by decide)
      ·have:=ne_row V4.out.own V4.out.hv (by decide)
       rw [ebv] at this
       exact this
     have H7:Hid ((w7.setCell ⟨w.heap.size+3,7,none⟩ (.slice a7 (r+1) c7)).heap[w.heap.size+1]?=some (.cells #[.string tnm,.bool P.void,.int .i64 P.params,.int .i64 (N:Int),.slice ao P.objs.length co,.slice ab P.blks.length cb] 32 (0,0))) :=
      (heap_setCell_other w7 ⟨w.heap.size+3,7,none⟩ _ _ (by show w.heap.size+1≠w.heap.size+3;omega)).trans ((G7.block _ (qkp H4.out).1 (fun e=>hno3 _ (by omega) (.inl rfl) e.symm)).trans H4.out)
     refine ⟨fun b o hb=>by rw [show b=w.heap.size+3 from hb];exact qaq G7 (by omega) (hno3 _ (Nat.le_refl _) (.inr rfl)),?_⟩
     have u7:w7.cell? ⟨w.heap.size+3,7,none⟩=some (.slice ar r cr):=by
      rw [qaq G7 (by omega) (hno3 _ (Nat.le_refl _) (.inr rfl))]
      have:=qab V4.out.hv 7
      rw [ebv] at this
      exact this
     have f7:w7.frozen? ⟨w.heap.size+3,7,none⟩=false:=by
      have h1:w7.heap[w.heap.size+3]?=_:=G7.block _ (by omega) (fun e=>hno3 _ (Nat.le_refl _) (.inr rfl) e.symm)
      have h2:=V4.out.hv
      rw [ebv] at h2
      exact qac (h1.trans h2) 7
     clear O7 G7 D7 V4 H4 hr4 hnm hno3 hown hcn
     simp only [Act.put,List.setIfInBounds_toArray,List.set_cons_succ,List.set_cons_zero]
     refine qaf [9,10] _ _ _ _ (by kernel_rfl) ?_
     simp only [qka,qkb,qkc,qkd,qke,qkf,qkg,qkh,qki,Nat.reduceAdd,Nat.reduceSub]
     repeat (go_big_quiet_step (fail))
     refine wpQuiet_nil ?_
     refine qbq 11 _ rfl (by kernel_rfl) ?_
     simp only [qkj,qkk,qkl]
     go_wp2_with fail
     refine qao (by kernel_rfl) ?_ _
     generalize w7.setCell ⟨w.heap.size+3,7,none⟩ (.slice a7 (r+1) c7)=W8 at *
     clear u7 f7 lv ebv ebl
     have hbl2:(bs++[W2.heap.size]).length=r+1:=by rw [List.length_append,hbl];rfl
     generalize bs++[W2.heap.size]=bs' at *
     obtain ⟨z0,z1,z2,z3,z4,z5,l1⟩:=cl6 H7.out
     have ebv:(k0.with bs' (.slice a7 (r+1) c7)).bv=w.heap.size+3:=k0v.out.1
     have eN:(k0.with bs' (.slice a7 (r+1) c7)).N=N:=k0v.out.2.2.2.1
     have ebO:(k0.with bs' (.slice a7 (r+1) c7)).bO=w.heap.size+4:=k0v.out.2.1
     by_cases hp:(r:Int)<P.params
     ·have gp:decide ((r:Int)<P.params)=true:=qkn hp
      have hr8:r<(k0.with bs' (.slice a7 (r+1) c7)).bs.length:=by show r<bs'.length;omega
      obtain ⟨g,c,hv8, -, -,hgl,hgO,hgR⟩:=V7.out.reg hr8
      obtain ⟨q7,qr⟩:=V7.out.regAt hv8 hr8
      have q8:=qab V7.out.hv 8
      have e8:((k0.with bs' (.slice a7 (r+1) c7)).cells.toArray)[8]?=some (.slice (some ⟨w.heap.size+4,0,none⟩) 1 1):=by show some (slW k0.bO)=_;rw [k0v.out.2.1];rfl
      have e7:(.slice (some ⟨g,0,none⟩) (k0.with bs' (.slice a7 (r+1) c7)).bs.length c:Value)=.slice (some ⟨g,0,none⟩) (r+1) c:=by rw [show (k0.with bs' (.slice a7 (r+1) c7)).bs.length=r+1 from hbl2]
      rw [e7,ebv] at q7
      rw [e8,ebv] at q8
      rw [show (k0.with bs' (.slice a7 (r+1) c7)).bs=bs' from rfl] at qr
      have HR8:=qkm (V7.out.row r hr8)
      have HO8:=qkm V7.out.out
      have gi1:decide (r<r+1)=true:=qkn (by omega)
      have gi2:decide ((r:Int)<(r:Int)+1)=true:=qkn (by omega)
      have hbv8:Hid (w.heap.size+3≠bs'.getD r 0∧g≠bs'.getD r 0):=by
       have h1:=qbk V7.out.hv (V7.out.row r hr8).1 (by decide)
       rw [ebv] at h1
       exact ⟨h1,hgR r hr8⟩
      have lv:=V7.out.lv
      rw [ebv] at lv
      clear e7 e8 hgO hgR
      generalize hbr:bs'.getD r 0=br at *
      go_upto_region 15 with (fail)
      refine qae (fun b=>b=w.heap.size+3∨b=g) (by kernel_rfl) ?_
      obtain ⟨W9,hW9⟩:∃ W9,W9=W8.drew:=⟨_,rfl⟩
      have hb5:Below W8.heap.size W8 W9:=by rw [hW9];exact (Below.refl _ _).drew
      first|rw [←hW9]|rw [show (⟨W8.heap,W8.tape,W8.drawn+1,W8.os,W8.output⟩:World)=W9 from hW9.symm]
      have H9:=qkm ((hb5.block _ (qkp H7.out).1).trans H7.out)
      have V9:=qkm (V7.out.grow hb5)
      have HE9:=Ext.below hb5
      replace q7:=HE9 _ _ q7
      replace q8:=HE9 _ _ q8
      replace qr:=HE9 _ _ qr
      have HR9:Hid (qd4 W9 br ((qdw P OUT r++[0]).getD r 0)):=by rw [←hbr];exact (hb5.block _ HR8.out.1.lt).trans HR8.out.1
      have HO9:Hid (qd4 W9 (k0.with bs' (.slice a7 (r+1) c7)).bO OUT∧OUT<2 ^ 64):=⟨(hb5.block _ HO8.out.1.lt).trans HO8.out.1,HO8.out.2⟩
      have lv:=Nat.lt_of_lt_of_le lv hb5.size
      have hgl:=Nat.lt_of_lt_of_le hgl hb5.size
      clear hW9 hb5 HE9 HR8 HO8 V7 H7 z0 z1 z2 z3 z4 z5 l1
      have hy0:(qdw P OUT r++[0]).getD r 0=0:=by rw [qd8,qqv,if_neg (Nat.lt_irrefl _),if_pos rfl]
      rw [hy0] at HR9
      rw [ebO] at HO9
      refine qaf [0,1,2,3,4,5,6,7,8,9,10] _ _ _ _ (by kernel_rfl) ?_
      simp only [qka,qkb,qkc,qkd,qke,qkf,qkg,qkh,qki,Nat.reduceAdd,Nat.reduceSub]
      repeat (go_big_quiet_step (fail))
      refine wpQuiet_nil ?_
      refine qag 11 _ rfl (by kernel_rfl) ?_
      simp only [qkj,qkk,qkl]
      go_wp2_with fail
      refine (qx9 br (w.heap.size+4) 0 OUT W9 HR9.out HO9.out.1 (by decide) HO9.out.2).mono ?_
      rintro e w5 ⟨rfl,hw5,hb6⟩
      go_wp2_with fail
      refine ⟨fun b o hb=>by rcases hb with rfl|rfl;exact hb6.cell lv hbv8.out.1;exact hb6.cell hgl hbv8.out.2,?_⟩
      refine qao (by kernel_rfl) ?_ _
      have hbr2:(k0.with bs' (.slice a7 (r+1) c7)).bs.getD r 0=br:=hbr
      have hlt1:w.heap.size+1<W9.heap.size:=(qkp H9.out).1
      have hne1:w.heap.size+1≠br:=fun e=>by
       have h1:=H9.out
       rw [e] at h1
       exact qbk h1 HR9.out (by decide) rfl
      have H10:=qkm ((hb6.block _ hlt1 hne1).trans H9.out)
      have V10:Hid (VwM w w5 (k0.with bs' (.slice a7 (r+1) c7)) ⟨qdw P OUT (r+1),OUT⟩ (spS P N r)):=by
       have h:=(V9.out.setRow hr8 (y:=OUT) HO9.out.2 (by rw [hbr2];exact hb6) (by rw [hbr2];simpa using hw5)).1
       rw [show ({ regs:=qdw P OUT r++[0],out:=OUT }:AS).regs.set r OUT=qdw P OUT (r+1) from qr0 hp] at h
       exact h
      have hb6z:=hb6.size
      clear V9 H9 HR9 HO9 hw5 hb6 q7 q8 qr
      have hrN:r<(k0.with bs' (.slice a7 (r+1) c7)).N:=by rw [eN];exact hlt
      have hvS:(k0.with bs' (.slice a7 (r+1) c7)).vS=.slice (some ⟨w.heap.size+2,0,none⟩) N N:=k0v.out.2.2.2.2.2.2.2
      obtain ⟨g2,c2,hvS2, -, -,hg2l,hfz2,hcs2⟩:=V10.out.sat hrN
      rw [hvS] at hvS2
      simp only [Value.slice.injEq,Option.some.injEq,Addr.mk.injEq,and_true,true_and] at hvS2
      obtain ⟨rfl, -, -⟩:=hvS2
      have p2:=hcs2 2 (by decide)
      rw [qw5 hlt] at p2
      simp only [qbo,sp0,qke,qkd] at p2
      have f2:=hfz2 (r*4+2)
      have p9:=qab V10.out.hv 9
      have e9:((k0.with bs' (.slice a7 (r+1) c7)).cells.toArray)[9]?=some (.slice (some ⟨w.heap.size+2,0,none⟩) N N):=by show some (k0.with bs' (.slice a7 (r+1) c7)).vS=_;rw [hvS]
      rw [e9,ebv] at p9
      clear e9 hcs2 hfz2
      have gn:decide (r<N)=true:=qkn hlt
      go_wp2_with fail
      have V11:Hid (VwM w (w5.setCell ⟨w.heap.size+2,r*4+2,none⟩ (.int .i64 1)) (k0.with bs' (.slice a7 (r+1) c7)) ⟨qdw P OUT (r+1),OUT⟩ (spS P N (r+1))):=by
       have h:=(V10.out.setSp hvS hrN (j:=2) (by decide) (s:=⟨0,0,1,false⟩) (v:=.int .i64 1) (by rw [qw5 hlt];rfl)).1
       rw [qzb hp] at h
       exact h
      have H11:Hid ((w5.setCell ⟨w.heap.size+2,r*4+2,none⟩ (.int .i64 1)).heap[w.heap.size+1]?=_):=(heap_setCell_other w5 ⟨w.heap.size+2,r*4+2,none⟩ _ _ (by show w.heap.size+1≠w.heap.size+2;omega)).trans H10.out
      go_roundw
      case rel=>exact ⟨r+1,bs',_,hlt,hbl2,by go_num,V11,H11⟩
      case measure=>simp [intOf];omega
     ·have gp:decide ((r:Int)<P.params)=false:=qko hp
      have V9:Hid (VwM w W8 (k0.with bs' (.slice a7 (r+1) c7)) ⟨qdw P OUT (r+1),OUT⟩ (spS P N (r+1))):=by
       have h:=V7.out
       rw [qvo hp] at h
       rw [q1s hp]
       exact h
      clear V7 hp
      go_wp2_with fail
      go_roundw
      case rel=>exact ⟨r+1,bs',_,hlt,hbl2,by go_num,V9,H7⟩
      case measure=>simp [intOf];omega
    ·obtain rfl:r=N:=by omega
     have hT2:t=P.objs.length+m.globs.length+1:=by have:=HT.out;omega
     have hNr:P.regs.toNat=r:=by have:=HNN.out;omega
     have hstart:Hid ((⟨qdw P OUT r,OUT⟩:AS)=AS.start P t):=by
      show _=_
      unfold AS.start qdw
      rw [hNr,HOUT.out]
     rw [hstart.out] at V
     have hkp:(k0.with bs vR).p=P:=k0v.out.2.2.2.2.1
     have hkN:(k0.with bs vR).N=r:=k0v.out.2.2.2.1
     have hkT:(k0.with bs vR).T=t:=k0v.out.2.2.1
     have hkb:(k0.with bs vR).bv=w.heap.size+3:=k0v.out.1
     have hkl:(k0.with bs vR).bs.length=r:=hbl
     generalize k0.with bs vR=K at *
     have hgb:∀ nn,nn<P.blks.length→okB m P (P.blks.getD nn default)=true:=fun nn hnn=>qjm HOK.out hnn
     have hmem:∀ nn,nn<P.blks.length→P.blks.getD nn default∈P.blks:=fun nn hnn=>by simp [List.getD,hnn]
     have hmi:∀ (b:Bk) j,j<b.ins.length→b.ins.getD j default∈b.ins:=fun b j hj=>by simp [List.getD,hj]
     have hdefs:∀ i∈P.blks.flatMap (·.ins),qbn i≠ -1→0≤qbn i∧(qbn i).toNat<r:=fun i hi hd=>by
      obtain ⟨b,hb,hi⟩:=List.mem_flatMap.1 hi
      have h1:=HOK.out
      unfold okP at h1
      simp only [Bool.and_eq_true,List.all_eq_true] at h1
      have h2:=h1.2 b hb
      unfold okB at h2
      simp only [Bool.and_eq_true,List.all_eq_true] at h2
      have:=qr4 (h2.1 i hi) hd
      omega
     have hlen:(P.blks.flatMap (·.ins)).length≤40000:=by
      have h40:=HBL.out.1
      have h60:∀ b∈P.blks,b.ins.length≤1000:=fun b hb=>(HBL.out.2 b hb).1
      rw [List.length_flatMap]
      have:∀ l:List Bk,(∀ b∈l,b.ins.length≤1000)→(l.map fun b=>b.ins.length).sum≤1000*l.length:=fun l=>by
       induction l with
       | nil=>intro _;simp
       | cons b l ih=>
        intro hb
        have e1:=hb b (List.mem_cons_self ..)
        have e2:=ih fun x hx=>hb x (List.mem_cons_of_mem _ hx)
        simp only [qka,List.sum_cons,qkh]
        omega
      have:=this _ h60
      omega
     have hend:∀ nn,nn<P.blks.length→(P.blks.getD nn default).fin=3→(P.blks.getD nn default).a≠ -1→0≤(P.blks.getD nn default).a∧(P.blks.getD nn default).a.toNat<r:=fun nn hnn h3 ha=>by
      have:=qh6 (qi9 (hgb nn hnn))
      omega
     have hblk:P.blks.length≤1000∧∀ nn,nn<P.blks.length→(P.blks.getD nn default).ins.length≤1000:=⟨by have:=HBL.out.1;omega,fun nn hnn=>by have:=(HBL.out.2 _ (hmem nn hnn)).1;omega⟩
     have E1:Hid (Calls Try.prog 64 #[.pointer (some ⟨K.bv,0,none⟩),.func (.func 65) #[.pointer (some ⟨K.bv,0,none⟩)] #[]] wr fun e w'=>e=.returned (.bool ((AS.start P t).pass (P.blks.flatMap (cB fun _=>[]))).2)∧VwM w w' K ((AS.start P t).pass (P.blks.flatMap (cB fun _=>[]))).1 ((P.blks.flatMap (·.ins)).foldl (qel P.objs.length) (spS P r r))∧KpW K wr w'):=by
      rw [←hkp]
      refine qxy w K (AS.start K.p t) (spS K.p r r) (fun _=>[]) (qel K.p.objs.length) SpB wr (by rw [hkp];exact V.out) (by rw [hkp];exact hblk) (by rw [hkp,hkl];exact hend) (fun l l' hl=>?_) (fun nn j X SP va wr' hnn hj hv hq hva=>?_)
      ·have hll:l.length≤40000:=by
        rw [hkp] at hl
        have:=congrArg List.length hl
        rw [List.length_append] at this
        omega
       intro q
       have:=qsh K.p.objs.length l (spS K.p r r) 1 (fun q=>by
        by_cases hq:q<r
        ·rw [qlr hq];dsimp only;split <;> omega
        ·have e:(spS K.p r r).getD q default=default:=by simp [List.getD,spS,hq]
         rw [e];exact ⟨Int.le_refl 0,by decide⟩) q
       omega
      ·rw [hkp] at hnn hj hva ⊢
       have hI:okI m P ((P.blks.getD nn default).ins.getD j default)=true:=qgw (hgb nn hnn) hj
       have h1:=q0t w K X SP ((P.blks.getD nn default).ins.getD j default) va wr' hv (by rw [hkp];omega) (qyc hI ho hg hpl) ((HPR.out.blks _ (hmem nn hnn)).ins _ (hmi _ j hj)).off (fun hd=>by
        rw [hkN]
        have:=qr4 hI hd
        omega) hq
       rw [hkp] at h1
       exact h1
     clear hstart V
     rw [hkb] at E1
     have lb1:=(qkp H1.out).1
     clear H1
     go_wp2_with fail
     refine E1.out.mono ?_
     clear E1
     rintro e w1 ⟨rfl,hv1,hk1⟩
     have hin:∀ c∈qeh P,c.inn P.regs.toNat∧c.thing t:=by
      have h1:=HOK.out
      unfold okP at h1
      simp only [Bool.and_eq_true] at h1
      have:=qme (m:=m) h1.2
      rw [←hT2] at this
      exact this
     have HIN:=qkm hin
     have X1:Hid (((AS.start P t).pass (P.blks.flatMap (cB fun _=>[]))).1.End P t):=(AS.End.start P t).pass (qzd P) (fun c hc=>(hin c hc).1)
     have HSP:Hid (∀ q,q<r→((P.blks.flatMap (·.ins)).foldl (qel P.objs.length) (spS P r r)).getD q default=spP P q):=fun q hq=>by
      rw [qtt P.objs.length r hq _ _ (by simp [spS]) hdefs,qlr hq]
      rfl
     have V1:=qkm hv1
     clear hv1 hk1 hin
     generalize ((AS.start P t).pass (P.blks.flatMap (cB fun _=>[]))).1=x1 at *
     generalize ((AS.start P t).pass (P.blks.flatMap (cB fun _=>[]))).2=y1 at *
     generalize (P.blks.flatMap (·.ins)).foldl (qel P.objs.length) (spS P r r)=sp1 at *
     go_wp2_with fail
     go_loopg [] ((qg3 r t).length-x1.cnt r t) (fun mm wr2=>∃ x:AS,Hid (mm=(qg3 r t).length-x.cnt r t)∧Hid (x.End P t)∧Hid (VwM w wr2 K x sp1))
     case atStart=>exact ⟨x1,rfl,X1,V1⟩
     case round=>
      clear X1 V1
      obtain ⟨x,Hm,HX,V⟩:=hrel
      have ES:Hid (Calls Try.prog 64 #[.pointer (some ⟨K.bv,0,none⟩),.func (.func 66) #[.pointer (some ⟨K.bv,0,none⟩)] #[]] wr fun e w'=>e=.returned (.bool (x.pass (qeh P)).2)∧VwM w w' K (x.pass (qeh P)).1 sp1∧KpW K wr w'):=by
       have h:=qyy w K x sp1 (qeo K.p.objs.length) (fun SP _=>SP) (fun _=>True) wr V.out (by rw [hkp];exact hblk) (by rw [hkp,hkl];exact hend) (fun _ _ _=>trivial) (fun nn j X SP va wr' hnn hj hv _ hva=>by
        rw [hkp] at hnn hj hva ⊢
        have hI:okI m P ((P.blks.getD nn default).ins.getD j default)=true:=qgw (hgb nn hnn) hj
        have h1:=qvt w K X SP m ((P.blks.getD nn default).ins.getD j default) va wr' hv (by rw [hkl,hkp,hNr]) (by rw [hkp];exact hI) (by rw [hkp];omega) hg hva (by have:=(HBL.out.2 _ (hmem nn hnn)).2 _ (hmi _ j hj);omega)
        rw [hkp] at h1
        exact h1)
       rw [hkp,qp1] at h
       exact h
      rw [hkb] at ES
      go_wp2_with fail
      refine ES.out.mono ?_
      clear ES
      rintro e w2 ⟨rfl,hv2,hk2⟩
      have V2:=qkm hv2
      clear hv2 hk2 V
      obtain ⟨nb,hnb⟩:∃ nb,(x.pass (qeh P)).2=nb:=⟨_,rfl⟩
      have HNB:=qkm hnb
      rw [hnb]
      clear hnb
      cases nb
      ·have hno:=AS.pass_no (l:=qeh P) (x:=x) (fun c hc=>by rw [HX.out.len];exact (HIN.out c hc).1) HNB.out
       have HNO:=qkm hno
       clear hno HNB
       dsimp only
       go_wp2_with fail
       go_ret2
       have hv:=V2.out
       rw [HNO.out.1] at hv
       exact ⟨K,x,sp1,by rw [hkb];rfl,hv,hkp,by rw [hkl,hNr],by rw [hkT,hT2],by rw [hkT];exact HX.out,HNO.out.2,fun q hq=>HSP.out q (by omega),by rw [hkN,hNr]⟩
      ·have hmore:=AS.pass_more (T:=t) (l:=qeh P) (x:=x) (fun c hc=>by rw [HX.out.len];exact (HIN.out c hc).1) (fun c hc=>(HIN.out c hc).2) (HX.out.bound fun c hc=>(HIN.out c hc).2) HNB.out
       rw [HX.out.len,hNr] at hmore
       have X2:Hid ((x.pass (qeh P)).1.End P t):=HX.out.pass (l:=qeh P) (fun c hc=>hc) (fun c hc=>(HIN.out c hc).1)
       have hle:=AS.cnt_le (x.pass (qeh P)).1 r t
       have HM:Hid ((qg3 r t).length-(x.pass (qeh P)).1.cnt r t<gk):=by
        show _<gk
        rw [Hm.out]
        omega
       clear hmore hle HNB
       dsimp only
       go_wp2_with fail
       go_roundg ((qg3 r t).length-(x.pass (qeh P)).1.cnt r t)
       case rel=>exact ⟨_,rfl,X2,V2⟩
       case measure=>exact HM
end Go.Proofs.Ytmcddolkpcgddaa
