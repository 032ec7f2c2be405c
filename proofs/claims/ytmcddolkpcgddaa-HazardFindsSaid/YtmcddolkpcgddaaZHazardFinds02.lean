/-
Contracts of flow's before and join, and of slices.Clone at bools.
-/
import Derived.Test.YtmcddolkpcgddaaZHazardFinds01
import Derived.Lib.SliceRun
import Derived.WalkSpells
set_option maxHeartbeats 1000000
set_option maxRecDepth 20000
set_option linter.all false
namespace Go.Proofs.Ytmcddolkpcgddaa
open Go.ChangeShapes Go.WideShapes Go.ChangeAt Go.RowKit
section
def RdF (w:World) (B:Nat) (v:Value) (l:List Int):Prop:=RdI w v l∧∀ a n c,v=.slice (some a) n c→B≤a.block
theorem qa8.rf {w:World} {B:Nat} {v:Value} {l:List Int} (h:qa8 w B v l):RdF w B v l:=⟨h.rd,fun a n c e=>by
 obtain ⟨-,⟨h5, -⟩|⟨g',cap,cur,h5,hb, -⟩⟩:=h
 ·rw [h5] at e;simp at e
 ·rw [h5] at e;simp only [Value.slice.injEq,Option.some.injEq] at e;rw [←e.1];exact hb⟩
theorem qa8.set {w:World} {B g n c:Nat} {l:List Int} (h:qa8 w B (.slice (some ⟨g,0,none⟩) n c) l) (i:Nat) (x:Int):qa8 (w.setCell ⟨g,i,none⟩ (.int .i64 x)) B (.slice (some ⟨g,0,none⟩) n c) (l.set i x):=by
 obtain ⟨rfl,_⟩:=h.cellAt
 have:=(World.ownsRow.stored h i (.int .i64 x)).1
 unfold qa8
 rw [List.length_set,List.map_set]
 exact this
theorem qin {p:Int→Bool} {l:List Int} (h:∀ j,j<l.length→p (l.getD j 0)=false):l.filter (fun x=> !p x)=l:=by
 rw [List.filter_eq_self]
 intro x hx
 obtain ⟨j,hj,rfl⟩:=List.getElem_of_mem hx
 have:=h j hj
 simp [List.getD,hj] at this
 simp [this]
theorem qmr {p:Int→Bool} {l:List Int} {k:Nat} (hk:k≤l.length) (h:∀ j,j<k→p (l.getD j 0)=false):(l.take k).filter (fun x=> !p x)=l.take k:=by
 apply qin
 intro j hj
 have hj':j<k:=by simp at hj;omega
 have:=h j hj'
 simpa [List.getD,hj',List.getElem?_take] using this
theorem quk (l:List Int) (i:Nat) (x:Int) (h:i<l.length):(l.set i x).take (i+1)=l.take i++[x]:=by
 rw [List.take_succ_eq_append_getElem (by simpa using h)]
 simp [List.take_set_of_le]
structure qtz (p:Int→Bool) (l cur:List Int) (i j:Nat):Prop where
 lt:i<j
 le:j≤l.length
 len:cur.length=l.length
 front:cur.take i=(l.take j).filter fun x=> !p x
 back:∀ t,j≤t→cur.getD t 0=l.getD t 0
theorem qtz.start {p:Int→Bool} {l:List Int} {k:Nat} (hk:k<l.length) (hp:p (l.getD k 0)=true) (h:∀ j,j<k→p (l.getD j 0)=false):qtz p l l k (k+1):=by
 refine ⟨by omega,hk,rfl,?_,fun _ _=>rfl⟩
 rw [qcw l k hk,List.filter_append,qmr (by omega) h,List.filter_cons,hp]
 simp
theorem qtz.drop {p:Int→Bool} {l cur:List Int} {i j:Nat} (h:qtz p l cur i j) (hj:j<l.length) (hp:p (l.getD j 0)=true):qtz p l cur i (j+1):=by
 refine ⟨by have:=h.lt;omega,hj,h.len,?_,fun t ht=>h.back t (by omega)⟩
 rw [qcw l j hj,List.filter_append,←h.front,List.filter_cons,hp]
 simp
theorem qtz.keep {p:Int→Bool} {l cur:List Int} {i j:Nat} (h:qtz p l cur i j) (hj:j<l.length) (hp:p (l.getD j 0)=false):qtz p l (cur.set i (l.getD j 0)) (i+1) (j+1):=by
 have h1:=h.lt
 have h2:=h.len
 refine ⟨by omega,hj,by simpa using h.len,?_,fun t ht=>?_⟩
 ·rw [qcw l j hj,List.filter_append,←h.front,List.filter_cons,hp,quk _ _ _ (by omega)]
  simp
 ·rw [←h.back t (by omega)]
  simp [List.getD,List.getElem?_set,show i≠t by omega]
theorem Below.setCells {B:Nat} {a:World} {g:Nat} (hg:B≤g):∀ (vs:List Value) (o:Nat) (w:World),Below B a w→Below B a (w.setCells g o vs)
 | [],_,_,h=>h
 | v::vs,o,w,h=>Below.setCells hg vs (o+1) _ (h.setCell (p:=⟨g,o,none⟩) hg v)
theorem qu5 (w:World):(zeroValue 3).run Try.prog w=.ok (.int .i64 0) w:=by kernel_rfl
set_option maxHeartbeats 2000000 in
theorem qwd (l:List Int) (v:Value) (w:World) (B:Nat) (hv:qa8 w B v l) (pb:Nat) (hpb:pb<B) (hBw:B≤w.heap.size) (a:Option Addr) (n c:Nat) (hc:w.cell? ⟨pb,5,none⟩=some (.slice a n c)) (hn:l.length≤1000000) :
  Calls Try.prog 139 #[v,.func (.func 140) #[] #[.pointer (some ⟨pb,0,none⟩)]] w fun e w'=>∃ v',e=.returned v'∧RdF w' B v' (l.filter fun x=> !qnu n x)∧Below B w w':=by
 have ix:=qw9 l v w hv.rd pb a n c hc hn
 have ix':Calls Try.prog 147 #[v,.func (.func 140) #[] #[.pointer (some ⟨pb,0,none⟩)]] w (fun e w'=>(∃ r,e=.returned (.int .i64 r)∧q2z (qnu n) l r∧w=w')):=ix
 go_enter Try.func139,Try.ntmps139
 go_wp2_with fail
 refine ix'.mono ?_
 rintro e w' ⟨r,rfl,hr,rfl⟩
 rcases hr with ⟨rfl,hno⟩|⟨k,hk,rfl,hp,hno⟩
 ·have H:=qkm (qin hno)
  have HV:=qkm hv
  clear hno ix ix' hv
  go_wp2
  go_ret
  exact ⟨_,rfl,by rw [H.out];exact HV.out.rf,Below.refl _ _⟩
 ·have H:=qkm (qtz.start hk hp hno)
  clear hp hno ix ix'
  obtain ⟨g,cp,rfl⟩:∃ g cp,v=.slice (some ⟨g,0,none⟩) l.length cp:=by
   obtain ⟨_,⟨rfl,h2⟩|⟨g,cap,cur,h3,_⟩⟩:=hv
   ·omega
   ·exact ⟨g,cap,h3⟩
  obtain ⟨-,hcap,hcm,hBg, -, -⟩:=hv.cellAt
  unfold maxLen at hcm
  have HV:=qkm hv
  clear hv
  have hk1:((k:Int) == -1)=false:=beq_eq_false_iff_ne.2 (by omega)
  go_wp2_with fail
  go_loopw [5,6] (fun i j wr=>∃ (ii jj:Nat) (cur:List Int),i=.int .i64 ii∧j=.int .i64 jj∧Hid (qtz (qnu n) l cur ii jj)∧Hid (qa8 wr B (.slice (some ⟨g,0,none⟩) l.length cp) cur)∧Below B w wr)
   (fun _ j _=>l.length-(intOf j).toNat)
  case atStart=>exact ⟨k,k+1,l,rfl,by go_num,H,HV,Below.refl _ _⟩
  case round=>
   obtain ⟨ii,jj,cur,rfl,rfl,D,O,hb⟩:=hrel
   obtain ⟨-, -, -, -,hcells,hfr⟩:=O.out.cellAt
   have hlt1:=D.out.lt
   have hle1:=D.out.le
   have hcr:wr.cell? ⟨pb,5,none⟩=some (.slice a n c):=(hb.cell (p:=⟨pb,5,none⟩) hpb).trans hc
   by_cases hlt:jj<l.length
   ·obtain ⟨x,hx⟩:∃ x,l.getD jj 0=x:=⟨_,rfl⟩
    have hcx:=hcells jj hlt
    rw [D.out.back jj (Nat.le_refl _),hx] at hcx
    have hci:=hcells ii (by omega)
    generalize cur.getD ii 0=y at hci
    have hfi:=hfr ii
    clear hcells hfr
    have hkeep:=D.out.keep hlt
    have hdrop:=D.out.drop hlt
    rw [hx] at hkeep hdrop
    clear hx
    cases hpx:qnu n x
    ·have HK:=qkm (hkeep hpx)
     have E:Hid (∀ w:World,w.cell? ⟨pb,5,none⟩=some (.slice a n c)→Calls Try.prog 140 #[.int .i64 x,.pointer (some ⟨pb,0,none⟩)] w fun e w'=>e=.returned (.bool false)∧w=w'):=fun w hw=>(qi8 w x pb a n c hw).mono fun _ _ h=>⟨h.1.trans (qah hpx),h.2⟩
     clear hkeep hdrop hpx
     go_wp2_with (go_at_call 140;refine (E.out _ hcr).mono ?_;rintro e w' ⟨rfl,rfl⟩)
     go_roundw
     case rel=>exact ⟨ii+1,jj+1,cur.set ii x,by go_num,by go_num,HK,qa8.set O.out ii x,hb.setCell (by omega) _⟩
     case measure=>simp [intOf];omega
    ·have HK:=qkm (hdrop hpx)
     have E:Hid (∀ w:World,w.cell? ⟨pb,5,none⟩=some (.slice a n c)→Calls Try.prog 140 #[.int .i64 x,.pointer (some ⟨pb,0,none⟩)] w fun e w'=>e=.returned (.bool true)∧w=w'):=fun w hw=>(qi8 w x pb a n c hw).mono fun _ _ h=>⟨h.1.trans (qah hpx),h.2⟩
     clear hkeep hdrop hpx
     go_wp2_with (go_at_call 140;refine (E.out _ hcr).mono ?_;rintro e w' ⟨rfl,rfl⟩)
     go_roundw
     case rel=>exact ⟨ii,jj+1,cur,rfl,by go_num,HK,O,hb⟩
     case measure=>simp [intOf];omega
   ·have hne:¬ cp=ii:=by omega
    have hne':(cp ==ii)=false:=beq_eq_false_iff_ne.2 hne
    have hcl:∀ ty,(Builtin.clear_ #[45] ty #[.slice (some ⟨g,ii,none⟩) (l.length-ii) (cp-ii)]).run Try.prog wr=.ok (.tuple #[]) (wr.setCells g ii (List.replicate (l.length-ii) (.int .i64 0))):=fun ty=>
     Lib.run_clear_slice wr 45 3 ty (.int .i64 0) Try.underlying45 qu5 rfl rfl g ii (l.length-ii) (cp-ii) (by omega) (fun j hj=>by rw [hcells (ii+j) (by omega)];rfl) (fun j _=>hfr _)
    have HL:=qkm hcells
    clear hcells hfr
    go_wp2
    go_ret
    refine ⟨_,rfl,?_,Below.setCells hBg _ _ _ hb⟩
    have hfl:=D.out.front
    rw [List.take_of_length_le (by omega:l.length≤jj)] at hfl
    rw [←hfl]
    have hln:(cur.take ii).length=ii:=by rw [List.length_take];have:=D.out.len;omega
    refine ⟨?_,fun a n c e=>by have e':Value.slice (some ⟨g,0,none⟩) ii cp=.slice (some a) n c:=e;simp only [Value.slice.injEq,Option.some.injEq] at e';rw [←e'.1];exact hBg⟩
    refine ⟨some ⟨g,0,none⟩,cp,by rw [hln];rfl,by omega,by unfold maxLen;omega,fun i hi=>⟨g,0,rfl,?_⟩⟩
    rw [hln] at hi
    simp only [Nat.zero_add,Nat.mul_one,Nat.add_zero]
    rw [World.cell?_setCells_out g _ _ _ _ (fun _ _=>.inl hi),HL.out i (by omega)]
    simp [List.getD,List.getElem?_take,hi]
def q2l (w:World) (l:List Int) (e:Ending) (w':World):Prop:=∃ v,e=.returned v∧RdF w' w.heap.size v l∧Below w.heap.size w w'
theorem qij.r {w:World} {l:List Int} {e:Ending} {w':World} (h:qij w l e w'):q2l w l e w':=let ⟨v,h1,h2,h3⟩:=h;⟨v,h1,h2.rf,h3⟩
theorem qmm (p:Pr) (n:Nat):(qbr (p.blks.getD n default)).filter (fun x=> !qnu p.blks.length x)=qa1 p n:=by
 unfold qa1
 congr 1
 funext t
 unfold qnu
 rw [Bool.eq_iff_iff]
 simp
theorem qhz (b:Bk):(qbr b).length≤2:=by unfold qbr;split <;> (try split) <;> simp
theorem qxo (p:Pr) (V:Value) (n:Nat) (w:World) (hv:PrV w V p) (hn:n<p.blks.length) (hlen:p.blks.length≤1000000) :
  Calls Try.prog 115 #[V,.int .i64 (n:Int)] w (q2l w (qa1 p n)):=by
 obtain ⟨nm,vo,vb,rfl,hvo,a,c,rfl,hc1,hc2,hcell⟩:=hv
 obtain ⟨b,o,rfl,⟨vi,c0,hvi⟩,c1,c2,c3,c4⟩:=hcell n hn
 simp only [Nat.add_zero] at c0
 have hbw:b<w.heap.size:=World.block_lt_of_cell? w _ c0
 clear hcell
 have H:=qkm (qmm p n)
 have HB:Hid (∀ w',Ext w w'→Calls Try.prog 70 #[.agg #[vi,.int .i64 (p.blks.getD n default).fin,.int .i64 (p.blks.getD n default).a,.int .i64 (p.blks.getD n default).to,.int .i64 (p.blks.getD n default).els]] w' (qij w' (qbr (p.blks.getD n default)))) :=
  fun w' he=>qwn _ _ _ ⟨vi,rfl,hvi.ext he⟩
 have HL:=qkm (qhz (p.blks.getD n default))
 generalize p.blks.getD n default=B at *
 go_enter Try.func115,Try.ntmps115
 go_wp2_with fail
 refine (HB.out _ (Ext.alloc w _)).mono ?_
 rintro e w1 ⟨v1,rfl,ho,hb⟩
 have hbc:w1.cell? ⟨w.heap.size,5,none⟩=some (.slice (some ⟨b,o,none⟩) p.blks.length c):=by
  rw [hb.cell (by simp)];simp [go_sem]
 have hz:=hb.size
 simp at hz ho
 have D:=qwd (qbr B) v1 w1 (w.heap.size+1) ho w.heap.size (by omega) (by omega) _ _ _ hbc (by have:=HL.out;omega)
 rw [H.out] at D
 have D':=qkm D
 clear D
 go_wp2_with fail
 refine D'.out.mono ?_
 rintro e w2 ⟨v2,rfl,hr,hb2⟩
 have HR:=qkm hr
 clear hr hbc
 go_wp2_with fail
 go_ret
 simp at hb
 exact ⟨_,rfl,⟨HR.out.1,fun a n c e=>Nat.le_trans (by omega) (HR.out.2 a n c e)⟩,((qaa w _).trans (hb.mono (by omega))).trans (hb2.mono (by omega))⟩
end
section
theorem Own.drewN {w0 w:World} {B:Nat} {v:Value} {l:List Int} (h:Own w0 B w v l) (n:Nat):Own w0 B (w.drewN n) v l :=
 ⟨h.own,⟨h.below.os,h.below.tape,h.below.output,h.below.size,h.below.block⟩,h.le⟩
def inP (p:Pr) (t:Int):Bool:=decide (0≤t) && decide (t<p.blks.length)
theorem qi6 (p:Pr) (n:Nat):qa1 p n=(qbr (p.blks.getD n default)).filter (inP p):=rfl
theorem qvg (p:Pr) (V:Value) (n:Nat) (w:World) (hv:PrV w V p) (hn:n<p.blks.length) (hlen:p.blks.length≤1000000) :
  Calls Try.prog 82 #[V,.int .i64 (n:Int)] w (qij w (qa1 p n)):=by
 obtain ⟨nm,vo,vb,rfl,hvo,a,c,rfl,hc1,hc2,hcell⟩:=hv
 obtain ⟨b,o,rfl,⟨vi,c0,hvi⟩,c1,c2,c3,c4⟩:=hcell n hn
 simp only [Nat.add_zero] at c0
 have hbw:b<w.heap.size:=World.block_lt_of_cell? w _ c0
 clear hcell
 have H:=qkm (qi6 p n)
 have HB:Hid (∀ w',Ext w w'→Calls Try.prog 105 #[.agg #[vi,.int .i64 (p.blks.getD n default).fin,.int .i64 (p.blks.getD n default).a,.int .i64 (p.blks.getD n default).to,.int .i64 (p.blks.getD n default).els]] w' (qij w' (qbr (p.blks.getD n default)))) :=
  fun w' he=>qzm _ _ _ ⟨vi,rfl,hvi.ext he⟩
 have HL:=qhz (p.blks.getD n default)
 generalize p.blks.getD n default=B at *
 go_enter Try.func82,Try.ntmps82
 go_wp2_with fail
 refine (HB.out _ (Ext.alloc w _)).mono ?_
 rintro e w1 ⟨v1,rfl,ho,hb⟩
 have hbc:w1.cell? ⟨w.heap.size,5,none⟩=some (.slice (some ⟨b,o,none⟩) p.blks.length c):=by
  rw [hb.cell (by simp)];simp [go_sem]
 have hz:=hb.size
 simp at hz
 have hz':w.heap.size<w1.heap.size:=by omega
 obtain ⟨ad,cp,rfl,hl1,hl2,hcell⟩:=ho.rd
 clear ho
 clear c0 c1 c2 c3 c4
 have HC:=qkm hcell
 clear hcell
 have HE:Hid (Ext w1 w1):=Ext.refl _
 generalize qbr B=L at *
 go_wp2_with fail
 go_loopw [5,7] (fun v k wr=>∃ i:Nat,i≤L.length∧k=.int .i64 i∧Own w1 w1.heap.size wr v ((L.take i).filter (inP p))) (fun _ k _=>L.length-(intOf k).toNat)
 case atStart=>exact ⟨0,Nat.zero_le _,rfl,Own.nil (Nat.le_refl _)⟩
 case round=>
  obtain ⟨i,hk,rfl,O⟩:=hrel
  have hl:=qds (inP p) L i
  have hcr:=O.bcell
  by_cases hlt:i<L.length
  ·obtain ⟨b2,o2,rfl,hcx⟩:=HC.out i hlt
   have hc':=O.old HE.out (Nat.le_refl _) _ _ hcx
   simp only [Nat.mul_one,Nat.add_zero] at hc'
   clear hcx
   have hF1:=qdf (inP p) L i hlt
   have hF2:=qdr (inP p) L i hlt
   generalize L.getD i 0=x at hc' hF1 hF2
   by_cases h0:0≤x
   ·by_cases h1:x<(p.blks.length:Int)
    ·have HF:=qkm (hF1 (by unfold inP;simp [h0,h1]))
     clear hF1 hF2
     go_wp2_with fail
     go_quiet (fail)
     obtain ⟨wq,hq⟩:∃ wq,wq=wr.drewN nq:=⟨_,rfl⟩
     rw [←hq]
     have Oq:Own w1 w1.heap.size wq u5 ((L.take i).filter (inP p)):=hq ▸ O.drewN nq
     have hcq:wq.cell? ⟨b2,o2+i,none⟩=some (.int .i64 x):=hq ▸ hc'
     clear hq O hcr hc'
     go_wp2_with (at_builtin;refine qr7 Oq rfl rfl rfl rfl (by first | rfl | simp) (by omega) ?_;intro v1 w2 O1)
     go_roundw
     case rel=>exact ⟨i+1,by omega,by go_num,by rw [HF.out];exact O1⟩
     case measure=>simp [intOf];omega
    ·have h1':decide (x<(p.blks.length:Int))=false:=by simpa using h1
     have HF:=qkm (hF2 (by unfold inP;simp [h1]))
     clear hF1 hF2
     go_wp2_with fail
     go_quiet (fail)
     have Oq:=O.drewN nq
     go_wp2
     go_roundw
     case rel=>exact ⟨i+1,by omega,by go_num,by rw [HF.out];exact Oq⟩
     case measure=>simp [intOf];omega
   ·have h0':decide (0≤x)=false:=by simpa using h0
    have HF:=qkm (hF2 (by unfold inP;simp [h0]))
    clear hF1 hF2
    go_wp2_with fail
    go_quiet (fail)
    have Oq:=O.drewN nq
    go_wp2
    go_roundw
    case rel=>exact ⟨i+1,by omega,by go_num,by rw [HF.out];exact Oq⟩
    case measure=>simp [intOf];omega
  ·have HF:Hid ((L.take i).filter (inP p)=L.filter (inP p)):=by show _=_;rw [List.take_of_length_le (by omega)]
   go_wp2
   go_ret
   rw [H.out,←HF.out]
   exact O.ret ((qaa _ _).trans (hb.mono (by simp))) (by omega)
end
section
def qr2 (l:List Int) (r:Int):Bool:=l.contains r
theorem qa8.below {w w':World} {B:Nat} {v:Value} {l:List Int} (h:qa8 w B v l) (hb:Below w.heap.size w w'):qa8 w' B v l:=by
 obtain ⟨h1,h2|⟨g,cap,cur,h3,h4,h5,r⟩⟩:=h
 ·exact ⟨h1,.inl h2⟩
 ·exact ⟨h1,.inr ⟨g,cap,cur,h3,h4,(hb.block g (qkp h5).1).trans h5,r⟩⟩
end
section
open Go Go.RowKit
theorem qbd.at {w:World} {a:Option Addr} {n c:Nat} {l:List In} (h:qbd w (.slice a n c) l):n=l.length∧∀ k,k<l.length→∃ b o va,a=some ⟨b,o,none⟩∧b<w.heap.size∧RdI w va (l.getD k default).args∧
  (w.cell? ⟨b,o+k*11,none⟩=some (.int .i64 (l.getD k default).op)∧w.cell? ⟨b,o+k*11+1,none⟩=some (.int .i64 (l.getD k default).d)∧w.cell? ⟨b,o+k*11+2,none⟩=some (.int .i64 (l.getD k default).a)∧
  w.cell? ⟨b,o+k*11+3,none⟩=some (.int .i64 (l.getD k default).b)∧w.cell? ⟨b,o+k*11+4,none⟩=some (.int .i64 (l.getD k default).fn)∧w.cell? ⟨b,o+k*11+5,none⟩=some (.int .i64 (l.getD k default).obj)∧
  w.cell? ⟨b,o+k*11+6,none⟩=some (.int .i64 (l.getD k default).off)∧w.cell? ⟨b,o+k*11+7,none⟩=some (.int .i64 (l.getD k default).size)∧w.cell? ⟨b,o+k*11+8,none⟩=some (.int .u32 (l.getD k default).num)∧
  w.cell? ⟨b,o+k*11+9,none⟩=some va∧w.cell? ⟨b,o+k*11+10,none⟩=some (.bool (l.getD k default).log)):=by
 obtain ⟨a',c',e,h1,h2,hc⟩:=h
 simp only [Value.slice.injEq] at e
 obtain ⟨rfl,rfl,rfl⟩:=e
 refine ⟨rfl,fun k hk=>?_⟩
 obtain ⟨b,o,rfl,h0,h1,h2,h3,h4,h5,h6,h7,h8,⟨va,h9,hv⟩,h10⟩:=hc k hk
 exact ⟨b,o,va,rfl,World.block_lt_of_cell? w _ h0,hv,h0,h1,h2,h3,h4,h5,h6,h7,h8,h9,h10⟩
end
section
def qmp (r:Int):List In→Int
 | []=>0
 | i::l=>if qr2 (qbb i) r=true then 1 else if qbn i=r then 2 else qmp r l
def qvp (b:Bk) (r:Int):Bool:=(b.fin ==2 || b.fin ==3) && b.a ==r
def qgv (b:Bk) (k:Nat) (r:Int):Int:=if qmp r (b.ins.drop k)=0 then (if qvp b r=true then 1 else 0) else qmp r (b.ins.drop k)
end
section
def qfh (w:World) (base:Nat) (v:Value) (l:List Bool):Prop:=w.ownsRow base 4 1 v l.length (l.map Value.bool)
theorem qfh.rd {w:World} {base:Nat} {v:Value} {l:List Bool} (h:qfh w base v l):RdB w v l:=by
 obtain ⟨h1,⟨rfl,h2⟩|⟨g,cap,cur,rfl,hb,hg,hn,hc,hcs,ht⟩⟩:=h
 ·have:l=[]:=List.eq_nil_of_length_eq_zero h2
  subst this
  exact ⟨none,0,rfl,Nat.le_refl _,by simp [maxLen],fun i hi=>absurd hi (by simp)⟩
 ·refine ⟨_,_,rfl,hn,hc,fun i hi=>⟨g,0,rfl,?_⟩⟩
  have h3:(l.map Value.bool)[i]?=some (.bool (l.getD i false)):=by
   rw [List.getElem?_map,List.getElem?_eq_getElem hi];simp [List.getD,hi]
  rw [←ht,List.getElem?_take] at h3
  split at h3
  ·simp only [Nat.zero_add,Nat.mul_one,Nat.add_zero]
   rw [World.cell?]
   simp only [hg]
   simpa using h3
  ·cases h3
theorem qfh.cellAt {w:World} {B g n c:Nat} {l:List Bool} (h:qfh w B (.slice (some ⟨g,0,none⟩) n c) l):n=l.length∧n≤c∧c≤maxLen∧B≤g∧(∀ i,i<n→w.cell? ⟨g,i,none⟩=some (.bool (l.getD i false)))∧(∀ i,w.frozen? ⟨g,i,none⟩=false)∧g<w.heap.size:=by
 obtain ⟨ad,cp,h1,h2,h3,h4⟩:=h.rd
 simp only [Value.slice.injEq] at h1
 obtain ⟨rfl,rfl,rfl⟩:=h1
 have hf:=World.ownsRow.frozenAt h
 obtain ⟨_,⟨h5,_⟩|⟨g',cap,cur,h5,hb,hh,_⟩⟩:=h
 ·simp at h5
 ·simp only [Value.slice.injEq,Option.some.injEq,Addr.mk.injEq] at h5
  refine ⟨rfl,h2,h3,by omega,fun i hi=>?_,hf,?_⟩
  ·obtain ⟨b,o,e,hc⟩:=h4 i hi
   simp only [Option.some.injEq,Addr.mk.injEq] at e
   obtain ⟨rfl,rfl,_⟩:=e
   simpa using hc
  ·have:=(qkp hh).1
   omega
theorem qfh.set {w:World} {B g n c:Nat} {l:List Bool} (h:qfh w B (.slice (some ⟨g,0,none⟩) n c) l) (i:Nat) (x:Bool):qfh (w.setCell ⟨g,i,none⟩ (.bool x)) B (.slice (some ⟨g,0,none⟩) n c) (l.set i x):=by
 obtain ⟨rfl,_⟩:=h.cellAt
 have:=(World.ownsRow.stored h i (.bool x)).1
 unfold qfh
 rw [List.length_set,List.map_set]
 exact this
structure But (g:Nat) (w w':World):Prop where
 os:w'.os=w.os
 tape:w'.tape=w.tape
 output:w'.output=w.output
 size:w.heap.size≤w'.heap.size
 block:∀ k,k<w.heap.size→k≠g→w'.heap[k]?=w.heap[k]?
theorem But.refl (g:Nat) (w:World):But g w w:=⟨rfl,rfl,rfl,Nat.le_refl _,fun _ _ _=>rfl⟩
theorem But.trans {g:Nat} {a b c:World} (h:But g a b) (k:But g b c):But g a c :=
 ⟨k.os.trans h.os,k.tape.trans h.tape,k.output.trans h.output,Nat.le_trans h.size k.size,fun i hi hg=>(k.block i (Nat.lt_of_lt_of_le hi h.size) hg).trans (h.block i hi hg)⟩
theorem But.below {g:Nat} {w w':World} (h:Below w.heap.size w w'):But g w w':=⟨h.os,h.tape,h.output,h.size,fun k hk _=>h.block k hk⟩
theorem But.setCell (g i:Nat) (w:World) (x:Value):But g w (w.setCell ⟨g,i,none⟩ x) :=
 ⟨rfl,rfl,rfl,by simp [World.setCell],fun k _ hk=>Below.heap_setCell w ⟨g,i,none⟩ x k hk⟩
theorem But.toBelow {g B:Nat} {w w':World} (h:But g w w') (hg:B≤g) (hB:B≤w.heap.size):Below B w w':=⟨h.os,h.tape,h.output,h.size,fun k hk=>h.block k (by omega) (by omega)⟩
theorem But.cell {g:Nat} {w w':World} (h:But g w w') {b o:Nat} (hb:b<w.heap.size) (hg:b≠g):w'.cell? ⟨b,o,none⟩=w.cell? ⟨b,o,none⟩:=World.cell?_of_block (w:=w) (a:=⟨b,o,none⟩) (h.block b hb hg)
def q3c (g:Nat) (w w':World):Prop:=∀ a v,a.block≠g→w.cell? a=some v→w'.cell? a=some v
theorem But.ext {g:Nat} {w w':World} (h:But g w w'):q3c g w w':=fun a _ hg hv=>(World.cell?_of_block (w:=w) (h.block a.block (World.block_lt_of_cell? w a hv) hg)).trans hv
theorem qfh.below {w w':World} {B:Nat} {v:Value} {l:List Bool} (h:qfh w B v l) (hb:Below w.heap.size w w'):qfh w' B v l:=by
 obtain ⟨h1,h2|⟨g,cap,cur,h3,h4,h5,r⟩⟩:=h
 ·exact ⟨h1,.inl h2⟩
 ·exact ⟨h1,.inr ⟨g,cap,cur,h3,h4,(hb.block g (qkp h5).1).trans h5,r⟩⟩
theorem qfh.but {w w':World} {B g g0 n c:Nat} {l:List Bool} (h:qfh w B (.slice (some ⟨g0,0,none⟩) n c) l) (hb:But g w w') (hg:g0≠g):qfh w' B (.slice (some ⟨g0,0,none⟩) n c) l:=by
 obtain ⟨h1,h2|⟨g',cap,cur,h3,h4,h5,r⟩⟩:=h
 ·exact ⟨h1,.inl h2⟩
 ·simp only [Value.slice.injEq,Option.some.injEq,Addr.mk.injEq] at h3
  refine ⟨h1,.inr ⟨g',cap,cur,by simp only [h3],h4,(hb.block g' (qkp h5).1 (by omega)).trans h5,r⟩⟩
def setB (l:List Bool) (r:Int) (is:Bool):List Bool:=if 0≤r∧r<l.length then l.set r.toNat is else l
theorem qn4 (l:List Bool) (r:Int) (is:Bool):(setB l r is).length=l.length:=by unfold setB;split <;> simp
def qcn (w:World) (g n c:Nat) (l:List Bool):Prop:=qfh w 0 (.slice (some ⟨g,0,none⟩) n c) l
theorem qcn.below {w w':World} {g n c:Nat} {l:List Bool} (h:qcn w g n c l) (hb:Below w.heap.size w w'):qcn w' g n c l:=qfh.below h hb
end
section
def qei (l:List Bool) (rs:List Int):List Bool:=rs.foldl (fun l r=>setB l r true) l
def qx2 (l:List Bool) (i:In):List Bool:=qei (setB l (qbn i) false) (qbb i)
theorem qnb (l:List Bool) (rs:List Int) (k:Nat) (h:k<rs.length):qei l (rs.take (k+1))=setB (qei l (rs.take k)) (rs.getD k 0) true:=by
 unfold qei;rw [qcw rs k h,List.foldl_append];rfl
theorem qqd (l:List Bool) (rs:List Int):(qei l rs).length=l.length:=by
 unfold qei
 induction rs generalizing l with
 | nil=>rfl
 | cons r rs ih=>rw [List.foldl_cons,ih,qn4]
def orB (lt lf:List Bool) (k:Nat):List Bool:=(List.range lt.length).map fun i=>lt.getD i false || (decide (i<k) && lf.getD i false)
def q2n (lt lf:List Bool) (k:Nat):Bool:=(List.range k).any fun i=>lf.getD i false && !lt.getD i false
def qxi (lt lf:List Bool):List Bool:=orB lt lf lt.length
theorem qyj (lt lf:List Bool) (k:Nat):(orB lt lf k).length=lt.length:=by simp [orB]
theorem qht:(Try.prog.info? 4).map (fun i=>(i.zero,i.size,i.bytes))=some (some (.bool false),1,1):=by kernel_rfl
end
end Go.Proofs.Ytmcddolkpcgddaa
