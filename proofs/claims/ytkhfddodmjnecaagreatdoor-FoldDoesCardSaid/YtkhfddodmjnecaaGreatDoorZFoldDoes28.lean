/-
The table of rows in memory (fold.rows works on it).
-/
import Derived.Test.YtkhfddodmjnecaaGreatDoorZFoldDoes27
import Derived.Laws.AppendOwnNone
set_option linter.all false
namespace Go.Proofs.YtkhfddodmjnecaaGreatDoor
section
open Go.ChangeShapes Go.WideShapes Go.ChangeAt Go.RowKit
set_option maxHeartbeats 4000000
set_option maxRecDepth 100000
theorem flat_set2:∀ (t:Ro) (d:Nat) (o:Option Int),d<t.length→((t.flatMap cellC).set (d*2) (.bool o.isSome)).set (d*2+1) (.int .u32 (o.getD 0))=(t.set d o).flatMap cellC
 | [],_,_,h=>absurd h (Nat.not_lt_zero _)
 | a::t,0,o,_=>by simp [cellC]
 | a::t,d+1,o,h=>by
  have ih:=flat_set2 t d o (by simpa using h)
  have e1:(d+1)*2=d*2+1+1:=by omega
  simp only [List.flatMap_cons,List.set_cons_succ,e1,cellC,List.cons_append,List.nil_append]
  rw [←ih]
theorem flat_set4 (t:Ro) (d:Nat) (S:Bool) (X:Int) (h:d<t.length) (hs:S=false):((((t.flatMap cellC).set (d*2) (.bool S)).set (d*2+1) (.int .u32 X)).set (d*2) (.bool false)).set (d*2+1) (.int .u32 0)=(t.set d none).flatMap cellC:=by
 have e:((((t.flatMap cellC).set (d*2) (.bool S)).set (d*2+1) (.int .u32 X)).set (d*2) (.bool false)).set (d*2+1) (.int .u32 0)=((t.flatMap cellC).set (d*2) (.bool false)).set (d*2+1) (.int .u32 0):=by
  rw [List.set_comm (Value.int .u32 X) (Value.bool false) (show d*2+1≠d*2 by omega),List.set_set,List.set_set]
 rw [e]
 exact flat_set2 t d none h
theorem RowQ.set2 {w:World} {g c:Nat} {t:Ro} (h:RowQ w g c t) {d:Nat} (hd:d<t.length) (o:Option Int):RowQ ((w.setCell ⟨g,d*2,none⟩ (.bool o.isSome)).setCell ⟨g,d*2+1,none⟩ (.int .u32 (o.getD 0))) g c (t.set d o):=by
 have h1:=(World.ownsRow.stored h (d*2) (.bool o.isSome)).1
 have h2:=(World.ownsRow.stored h1 (d*2+1) (.int .u32 (o.getD 0))).1
 rw [flat_set2 t d o hd] at h2
 unfold RowQ
 rw [List.length_set]
 exact h2
theorem RowQ.set4 {w:World} {g c:Nat} {t:Ro} (h:RowQ w g c t) {d:Nat} (hd:d<t.length) (X:Int):RowQ ((((w.setCell ⟨g,d*2,none⟩ (.bool false)).setCell ⟨g,d*2+1,none⟩ (.int .u32 X)).setCell ⟨g,d*2,none⟩ (.bool false)).setCell ⟨g,d*2+1,none⟩ (.int .u32 0)) g c (t.set d none):=by
 have h1:=(World.ownsRow.stored h (d*2) (.bool false)).1
 have h2:=(World.ownsRow.stored h1 (d*2+1) (.int .u32 X)).1
 have h3:=(World.ownsRow.stored h2 (d*2) (.bool false)).1
 have h4:=(World.ownsRow.stored h3 (d*2+1) (.int .u32 0)).1
 rw [flat_set4 t d false X hd rfl] at h4
 unfold RowQ
 rw [List.length_set]
 exact h4
theorem RowQ.but {w w':World} {g g' c:Nat} {t:Ro} (h:RowQ w g c t) (hb:But g' w w') (hg:g≠g'):RowQ w' g c t:=World.ownsRow.kept h (but_grownK hb) (.inr (by simp only [Value.ownBlock];intro e;exact hg (Option.some.inj e)))
def BehQ (g c:Nat) (t':Ro) (w:World) (e:Ending) (w':World):Prop:=e=.returned (.tuple #[])∧RowQ w' g c t'∧But g w w'
theorem behind_c (g c:Nat) (t:Ro) (i:In) (va:Value) (w:World) (h:RowQ w g c t) (ht:RoOk t) (hv:RdI w va i.args) (hd:defI i≠ -1→0≤defI i∧defI i<(t.length:Int)) :
  Calls Tryz.prog 29 #[.slice (some ⟨g,0,none⟩) t.length c,aggI i va] w (BehQ g c (behC t i) w):=by
 have HDF:Hid (∀ W,Ext w W→Calls Tryz.prog 59 #[aggI i va] W fun e w'=>e=.returned (.int .i64 (defI i))∧Below W.heap.size W w'):=fun W hW=>def_c i _ W ⟨va,rfl,hv.ext hW⟩
 have HNM:Hid (∀ W,Ext w W→Calls Tryz.prog 60 #[.slice (some ⟨g,0,none⟩) t.length c,aggI i va] W (NumQ t i W)):=fun W hW=>number_c g c t i va W (h.rd.ext hW) ht (hv.ext hW)
 have HBE:Hid (behC t i=if defI i= -1 then t else t.set (defI i).toNat (numC t i)):=rfl
 have HNO:Hid (∀ x,numC t i=some x→0≤x∧x<4294967296∨True):=fun _ _=>.inr trivial
 clear HNO
 unfold NumQ at HNM
 obtain ⟨aa,ac,rfl, -⟩:=hv
 have H:=Lib.hid h
 obtain ⟨h1,h2,h3,h4⟩:=h.at
 unfold maxLen at h2
 clear h
 generalize behC t i=T' at *
 generalize numC t i=NN at *
 generalize defI i=D at *
 obtain ⟨op,d,a,b,fn,obj,off,size,num,args,lg⟩:=i
 unfold aggI at *
 dsimp only at *
 obtain ⟨W1,hW1⟩:∃ W1,W1=w.alloc (.cells #[.int .i64 op,.int .i64 d,.int .i64 a,.int .i64 b,.int .i64 fn,.int .i64 obj,.int .i64 off,.int .i64 size,.int .u32 num,.slice aa args.length ac,.bool lg] 48):=⟨_,rfl⟩
 have H0:=Lib.hid (heap_of_alloc w _ _ hW1)
 have B1:Hid (Below w.heap.size w W1):=by
  show Below _ _ _
  rw [hW1];exact below_alloc w _
 have HW1:=Lib.hid hW1.symm
 clear hW1
 obtain ⟨x0,x1,x2,x3,x4,x5,x6,x7,x8,x9,x10,l0⟩:=cl11 H0.out
 go_enter Tryz.func29,Tryz.ntmps29
 go_wp2_with fail
 rw [HW1.out]
 clear HW1
 refine (HDF.out W1 (Ext.below B1.out)).mono ?_
 rintro e w2 ⟨rfl,hb2⟩
 have H0:=Lib.hid ((hb2.block _ l0).trans H0.out)
 have B2:=Lib.hid (B1.out.trans (hb2.mono B1.out.size))
 clear hb2 HDF B1 x0 x1 x2 x3 x4 x5 x6 x7 x8 x9 x10 l0
 obtain ⟨x0,x1,x2,x3,x4,x5,x6,x7,x8,x9,x10,l0⟩:=cl11 H0.out
 by_cases hD:D= -1
 ·have gD:(D == -1)=true:=beq_iff_eq.2 hD
  have HT:Hid (T'=t):=by show _=_;rw [HBE.out,if_pos hD]
  clear hD HBE
  go_wp2_with fail
  go_end0
  exact ⟨rfl,by rw [HT.out];exact H.out.below B2.out,But.below B2.out⟩
 ·have gD:(D == -1)=false:=beq_eq_false_iff_ne.2 hD
  obtain ⟨d0,d1⟩:=hd hD
  obtain ⟨q,hq⟩:=Int.eq_ofNat_of_zero_le d0
  have HT:Hid (T'=t.set q NN):=by show _=_;rw [HBE.out,if_neg hD,hq];rfl
  subst hq
  have hql:q<t.length:=by omega
  obtain ⟨hfz,hgl⟩:=h4 (by omega)
  obtain ⟨c0,c1⟩:=h3 q hql
  have g1:decide (q<t.length)=true:=decide_eq_true hql
  have g2:decide ((q:Int)<(t.length:Int))=true:=decide_eq_true (by omega)
  clear hD HBE hd d0 d1
  go_wp2_with fail
  refine (HNM.out w2 (Ext.below B2.out)).mono ?_
  clear HNM
  rintro e w3 ⟨X,rfl,hX,hb3⟩
  have B3:=Lib.hid (B2.out.trans (hb3.mono B2.out.size))
  have H3:=Lib.hid (H.out.below B3.out)
  have c0:=(B3.out.cell (p:=⟨g,q*2,none⟩) hgl).trans c0
  have c1:=(B3.out.cell (p:=⟨g,q*2+1,none⟩) hgl).trans c1
  have f0:w3.frozen? ⟨g,q*2,none⟩=false:=(H3.out.at.2.2.2 (by omega)).1 _
  have f1:w3.frozen? ⟨g,q*2+1,none⟩=false:=(H3.out.at.2.2.2 (by omega)).1 _
  have HX:=Lib.hid hX
  clear hb3 h3 h4 hX hfz B2 H0 x0 x1 x2 x3 x4 x5 x6 x7 x8 x9 x10 l0
  generalize (t.getD q none).isSome=s0 at *
  generalize (t.getD q none).getD 0=s1 at *
  cases hNN:NN with
  | none=>
   have HF:=Lib.hid (H3.out.set4 hql X)
   rw [hNN] at HT
   clear hNN HX
   simp only [Option.isSome_none]
   go_wp2_with fail
   go_end0
   exact ⟨rfl,by rw [HT.out];exact HF.out,(((((But.below B3.out).trans (But.setCell g (q*2) _ _)).trans (But.setCell g (q*2+1) _ _)).trans (But.setCell g (q*2) _ _)).trans (But.setCell g (q*2+1) _ _))⟩
  | some y=>
   have hXy:=HX.out y hNN
   subst hXy
   have HF:=Lib.hid (H3.out.set2 hql (some X))
   rw [hNN] at HT
   clear hNN HX
   simp only [Option.isSome_some]
   go_wp2_with fail
   go_end0
   exact ⟨rfl,by rw [HT.out];exact HF.out,(((But.below B3.out).trans (But.setCell g (q*2) _ _)).trans (But.setCell g (q*2+1) _ _))⟩
end
section
open Go.ChangeShapes Go.WideShapes Go.ChangeAt Go.RowKit
set_option maxHeartbeats 4000000
set_option maxRecDepth 100000
theorem info_fcell:(Tryz.prog.info? 73).map (fun i=>(i.zero,i.size,i.bytes))=some (some (.agg #[.bool false,.int .u32 0]),2,8):=by kernel_rfl
theorem cell_one (t:Ro):∀ u∈t.flatMap cellC,u.oneCell'=true:=fun u hu=>by
 obtain ⟨o, -,h⟩:=List.mem_flatMap.1 hu
 simp only [cellC,List.mem_cons,List.not_mem_nil,or_false] at h
 rcases h with rfl|rfl <;> rfl
theorem vadd_c (g o j:Nat):(⟨g,o,none⟩:Addr).add j=⟨g,o+j,none⟩:=by unfold Addr.add;split <;> simp_all
theorem cloneC (g c:Nat) (t:Ro) (w:World) (h:RowQ w g c t) (hl:t.length≤1000000) :
  Calls Tryz.prog 89 #[.slice (some ⟨g,0,none⟩) t.length c] w fun e w'=>∃ g' c',e=.returned (.slice (some ⟨g',0,none⟩) t.length c')∧RowQ w' g' c' t∧w.heap.size≤g'∧Below w.heap.size w w':=by
 have hnil:=fun w=>Lib.run_eql_slice_nil (P:=Tryz.prog) w 69 73 (some ⟨g,0,none⟩) t.length c 0 0 Tryz.underlying69
 obtain ⟨i0,hi,hz0,hz1,hz2⟩:=info_parts info_fcell
 have hlen:=flat_len cellC 2 (fun _=>rfl) t
 have HC:Hid (∀ j u,(t.flatMap cellC)[j]?=some u→(w.alloc (.cells #[] 73)).cell? ((⟨g,0,none⟩:Addr).add j)=some u):=fun j u hj=>by
  rw [vadd_c]
  have hlt:j<t.length*2:=by rw [←hlen];exact (List.getElem?_eq_some_iff.1 hj).1
  have hx:w.cell? ⟨g,0+j,none⟩=some u:=by
   rw [Nat.zero_add]
   exact (World.ownsRow.cellAt h j hlt).trans hj
  exact ((below_alloc w _).cell (p:=⟨g,0+j,none⟩) (World.block_lt_of_cell? w _ hx)).trans hx
 have h1:=cell_one t
 have HL:Hid (t.flatMap cellC=t.flatMap cellC):=rfl
 clear HL h
 unfold RowQ
 generalize t.flatMap cellC=xs at *
 generalize t.length=n at *
 go_enter Tryz.func89,Tryz.ntmps89
 go_wp2_with (at_builtin;refine wpList_append_own _ rfl _ _ 69 rfl w.heap.size 73 i0 (.agg #[.bool false,.int .u32 0]) 2 8 Tryz.underlying69 hi hz0 hz1 hz2 rfl (by decide) (.slice (some ⟨w.heap.size,0,none⟩) 0 0) 0 [] rfl (World.ownsRow_made w #[] 0 (Nat.le_refl _) (by simp [maxLen]) (by simp)) ⟨g,0,none⟩ n c xs rfl hlen HC.out h1 (by unfold maxLen;omega) (by omega) (by simp) ?_;intro v' w1 hown hgrow hnn)
 simp only [Nat.zero_add,List.nil_append] at hown
 have hnv:v'≠.slice none 0 0:=fun e=>by
  have:=hnn.1 e
  simp at this
 have hB:=(below_alloc w (.cells #[] 73)).grown hgrow (by simp) fun k hk=>by simp [Value.ownBlock] at hk;omega
 obtain ⟨e1,⟨e2, -⟩|⟨g',cap,cur,rfl,hb,hg,r⟩⟩:=hown
 ·exact absurd e2 hnv
 ·go_ret
  exact ⟨g',cap,rfl,⟨e1,.inr ⟨g',cap,cur,rfl,Nat.zero_le _,hg,r⟩⟩,hb,hB⟩
structure InsC (n:Nat) (l:List In):Prop where
 num:∀ i∈l,0≤i.num∧i.num<4294967296
 defs:∀ i∈l,defI i≠ -1→0≤defI i∧defI i<(n:Int)
theorem thrC_take (t:Ro) (l:List In) (k:Nat) (h:k<l.length):thrC t (l.take (k+1))=behC (thrC t (l.take k)) (l.getD k default):=by
 unfold thrC
 rw [List.take_succ,List.getElem?_eq_getElem h,Option.toList_some,List.foldl_append]
 simp [List.getD,List.getElem?_eq_getElem h]
theorem thrC_ok {l:List In}:∀ {t:Ro},RoOk t→(∀ i∈l,0≤i.num∧i.num<4294967296)→RoOk (thrC t l):=by
 induction l with
 | nil=>intro t h _;exact h
 | cons i l ih=>intro t h hn;exact ih (behC_ok h (hn i List.mem_cons_self)) fun j hj=>hn j (List.mem_cons_of_mem _ hj)
theorem through_c (g c:Nat) (t:Ro) (b:Bk) (vi:Value) (w:World) (h:RowQ w g c t) (hl:t.length≤1000000) (ht:RoOk t) (hv:RdIns w vi b.ins) (hi:InsC t.length b.ins) (hil:b.ins.length≤100000) :
  Calls Tryz.prog 87 #[.slice (some ⟨g,0,none⟩) t.length c,.agg #[vi,.int .i64 b.fin,.int .i64 b.a,.int .i64 b.to,.int .i64 b.els]] w fun e w'=>∃ g' c',e=.returned (.slice (some ⟨g',0,none⟩) t.length c')∧RowQ w' g' c' (thrC t b.ins)∧w.heap.size≤g'∧Below w.heap.size w w':=by
 have HCL:Hid (∀ W,Below w.heap.size w W→Calls Tryz.prog 89 #[.slice (some ⟨g,0,none⟩) t.length c] W fun e w'=>∃ g' c',e=.returned (.slice (some ⟨g',0,none⟩) t.length c')∧RowQ w' g' c' t∧W.heap.size≤g'∧Below W.heap.size W w'):=fun W hW=>cloneC g c t W (h.below hW) hl
 obtain ⟨ai,ci,rfl,i1,i2,i3⟩:=hv
 have HIN:=Lib.hid (RdIns.at (w:=w) (a:=ai) (c:=ci) (l:=b.ins) ⟨ai,ci,rfl,i1,i2,i3⟩).2
 unfold maxLen at i2
 have HI:=Lib.hid hi
 have HT:Hid (∀ k,RoOk (thrC t (b.ins.take k))):=fun k=>thrC_ok ht fun i hh=>hi.num i (List.mem_of_mem_take hh)
 have HTL:Hid (∀ l,(thrC t l).length=t.length):=fun l=>thrC_len l t
 clear h hi ht i3
 obtain ⟨B,fin,ba,bto,bel⟩:=b
 dsimp only at *
 obtain ⟨W1,hW1⟩:∃ W1,W1=w.alloc (.cells #[.slice ai B.length ci,.int .i64 fin,.int .i64 ba,.int .i64 bto,.int .i64 bel] 43):=⟨_,rfl⟩
 have H0:=Lib.hid (heap_of_alloc w _ _ hW1)
 have B1:Hid (Below w.heap.size w W1):=by
  show Below _ _ _
  rw [hW1];exact below_alloc w _
 have HW1:=Lib.hid hW1.symm
 have hz1:w.heap.size<W1.heap.size:=by rw [hW1];simp
 clear hW1
 have l0:=(Array.getElem?_eq_some_iff.1 H0.out).1
 go_enter Tryz.func87,Tryz.ntmps87
 go_wp2_with fail
 rw [HW1.out]
 clear HW1
 refine (HCL.out W1 B1.out).mono ?_
 clear HCL
 rintro e w2 ⟨g',c',rfl,hq,hg',hb2⟩
 have H0:=Lib.hid ((hb2.block _ l0).trans H0.out)
 have B2:=Lib.hid (B1.out.trans (hb2.mono B1.out.size))
 have HQ0:Hid (RowQ w2 g' c' (thrC t (B.take 0))):=hq
 clear hb2 B1 hq l0
 obtain ⟨y0,y1,y2,y3,y4,l0⟩:=cl5 H0.out
 go_wp2_with fail
 go_loopw [13] (fun i wr=>∃ k:Nat,k≤B.length∧i=.int .i64 (k:Int)∧Hid (RowQ wr g' c' (thrC t (B.take k)))∧Hid (Below w.heap.size w wr)) (fun i _=>B.length-(intOf i).toNat)
 case atStart=>exact ⟨0,Nat.zero_le _,rfl,HQ0,B2⟩
 case round=>
  clear HQ0 B2 H0 y0 y1 y2 y3 y4 l0
  obtain ⟨k,hk,rfl,HQ,BB⟩:=hrel
  by_cases hlt:k<B.length
  ·have g1:decide (k<B.length)=true:=decide_eq_true hlt
   have g2:decide ((k:Int)<(B.length:Int))=true:=decide_eq_true (by omega)
   obtain ⟨ib,io,va,rfl,lib,hva,c0,c1,c2,c3,c4,c5,c6,c7,c8,c9,c10⟩:=HIN.out k hlt
   have lift:∀ {a:Addr} {u:Value},w.cell? a=some u→wr.cell? a=some u:=fun h=>(Ext.below BB.out) _ _ h
   have c0:=lift c0
   have c1:=lift c1
   have c2:=lift c2
   have c3:=lift c3
   have c4:=lift c4
   have c5:=lift c5
   have c6:=lift c6
   have c7:=lift c7
   have c8:=lift c8
   have c9:=lift c9
   have c10:=lift c10
   clear lift
   have lib:ib<wr.heap.size:=World.block_lt_of_cell? _ _ c0
   have hmem:B.getD k default∈B:=by simp [List.getD,hlt]
   have HTK:=Lib.hid (thrC_take t B k hlt)
   have HDK:=Lib.hid (HI.out.defs _ hmem)
   have HVA:=Lib.hid hva
   have HOK:=HT.out k
   have HLK:=HTL.out (B.take k)
   generalize thrC t (B.take k)=T at *
   have HBH:Hid (∀ W,Below wr.heap.size wr W→Calls Tryz.prog 29 #[.slice (some ⟨g',0,none⟩) t.length c',aggI (B.getD k default) va] W (BehQ g' c' (behC T (B.getD k default)) W)):=fun W hW=>by
    have h:=behind_c g' c' T (B.getD k default) va W (HQ.out.below hW) HOK (HVA.out.ext ((Ext.below BB.out).trans (Ext.below hW))) (fun hd=>by rw [HLK];exact HDK.out hd)
    rw [HLK] at h
    exact h
   clear hmem HQ HOK HLK HDK HVA
   obtain ⟨aa,ac,rfl, -⟩:=hva
   generalize B.getD k default=I at *
   obtain ⟨op,d,a,b,fn,obj,off,size,num,args,lg⟩:=I
   unfold aggI at HBH
   dsimp only at c0 c1 c2 c3 c4 c5 c6 c7 c8 c9 c10 HBH
   go_wp2_with fail
   refine (HBH.out _ (below_alloc wr _)).mono ?_
   clear HBH
   rintro e w5 ⟨rfl,hq5,hb5⟩
   have BB5:Hid (Below w.heap.size w w5):=(BB.out.trans ((below_alloc wr _).mono BB.out.size)).trans (hb5.toBelow (by omega) (by have:=BB.out.size;simp;omega))
   have HQ5:=Lib.hid hq5
   clear hq5 hb5 c0 c1 c2 c3 c4 c5 c6 c7 c8 c9 c10 lib
   go_wp2_with fail
   go_roundw
   case rel=>exact ⟨k+1,hlt,by go_num,by rw [HTK.out];exact HQ5,BB5⟩
   case measure=>simp [intOf];omega
  ·obtain rfl:k=B.length:=by omega
   rw [List.take_length] at HQ
   go_wp2_with fail
   go_ret
   exact ⟨g',c',rfl,HQ.out,by omega,BB.out⟩
end
section
open Go.ChangeShapes Go.WideShapes Go.ChangeAt Go.RowKit
set_option maxHeartbeats 4000000
set_option maxRecDepth 100000
def midC (a b:Ro) (k:Nat):Ro:=(List.range a.length).map fun i=>if i<k then (if a.getD i none=b.getD i none then a.getD i none else none) else a.getD i none
theorem midC_len (a b:Ro) (k:Nat):(midC a b k).length=a.length:=by simp [midC]
theorem midC_zero (a b:Ro):midC a b 0=a:=by
 refine List.ext_getElem (by simp [midC]) fun i h1 h2=>?_
 simp [midC,List.getD,h2]
theorem midC_all (a b:Ro):midC a b a.length=meetC a b:=by
 refine List.ext_getElem (by simp [midC,meetC]) fun i h1 h2=>?_
 have:i<a.length:=by simpa [midC] using h1
 simp [midC,meetC,this]
theorem midC_at (a b:Ro) (k:Nat) (h:k<a.length):(midC a b k).getD k none=a.getD k none:=by
 simp [midC,List.getD,h]
theorem midC_keep (a b:Ro) (k:Nat) (h:k<a.length) (e:a.getD k none=none∨a.getD k none=b.getD k none):midC a b (k+1)=midC a b k:=by
 refine List.ext_getElem (by simp [midC]) fun i h1 h2=>?_
 have hi:i<a.length:=by simpa [midC] using h1
 simp only [midC,List.getElem_map,List.getElem_range]
 by_cases h3:i<k
 ·rw [if_pos (by omega),if_pos h3]
 ·rw [if_neg h3]
  by_cases h4:i=k
  ·subst h4
   rw [if_pos (by omega)]
   rcases e with e|e
   ·rw [e];split <;> rfl
   ·rw [if_pos e]
  ·rw [if_neg (by omega)]
theorem midC_none (a b:Ro) (k:Nat) (h:k<a.length) (e:a.getD k none≠b.getD k none):midC a b (k+1)=(midC a b k).set k none:=by
 refine List.ext_getElem (by simp [midC]) fun i h1 h2=>?_
 have hi:i<a.length:=by simpa [midC] using h1
 rw [List.getElem_set]
 simp only [midC,List.getElem_map,List.getElem_range]
 by_cases h4:k=i
 ·subst h4
  rw [if_pos rfl,if_pos (by omega),if_neg e]
 ·rw [if_neg h4]
  by_cases h3:i<k
  ·rw [if_pos (by omega),if_pos h3]
  ·rw [if_neg (by omega),if_neg h3]
def wentC (a b:Ro) (k:Nat):Bool:=(List.range k).any fun i=>(a.getD i none).isSome && decide (a.getD i none≠b.getD i none)
theorem wentC_succ (a b:Ro) (k:Nat):wentC a b (k+1)=(wentC a b k || ((a.getD k none).isSome && decide (a.getD k none≠b.getD k none))):=by
 unfold wentC;rw [List.range_succ,List.any_append];simp
theorem meetC_at (a b:Ro) (i:Nat) (hi:i<a.length):(meetC a b).getD i none=if a.getD i none=b.getD i none then a.getD i none else none:=by
 unfold meetC
 rw [List.getD_eq_getElem?_getD,List.getElem?_map,List.getElem?_range hi]
 rfl
theorem wentC_iff (a b:Ro):wentC a b a.length=true↔meetC a b≠a:=by
 constructor
 ·intro h e
  unfold wentC at h
  rw [List.any_eq_true] at h
  obtain ⟨i,hi,h2⟩:=h
  have hi:=List.mem_range.1 hi
  simp only [Bool.and_eq_true,decide_eq_true_eq] at h2
  have h3:(meetC a b).getD i none=none:=by rw [meetC_at a b i hi,if_neg h2.2]
  rw [e] at h3
  rw [h3] at h2
  cases h2.1
 ·intro h
  apply Classical.byContradiction
  intro hn
  apply h
  refine List.ext_getElem (by simp [meetC]) fun i h1 h2=>?_
  simp only [meetC,List.getElem_map,List.getElem_range]
  have hg:a.getD i none=a[i]:=by simp [List.getD,h2]
  rw [hg]
  by_cases e:a[i]=b.getD i none
  ·rw [if_pos e]
  ·rw [if_neg e]
   cases ha:a[i] with
   | none=>rfl
   | some x=>
    exfalso
    apply hn
    unfold wentC
    rw [List.any_eq_true]
    refine ⟨i,List.mem_range.2 h2,?_⟩
    rw [hg,ha]
    rw [ha] at e
    simpa using e
def MeetQ (g c:Nat) (a b:Ro) (w:World) (e:Ending) (w':World):Prop:=e=.returned (.bool (wentC a b a.length))∧RowQ w' g c (meetC a b)∧But g w w'
theorem meetC_c (g c g2 c2:Nat) (a b:Ro) (w:World) (h:RowQ w g c a) (h2:RowQ w g2 c2 b) (hl:b.length=a.length) (hal:a.length≤1000000) (hne:g≠g2) :
  Calls Tryz.prog 90 #[.slice (some ⟨g,0,none⟩) a.length c,.slice (some ⟨g2,0,none⟩) a.length c2] w (MeetQ g c a b w):=by
 obtain ⟨q1,q2, -,q4⟩:=h.at
 obtain ⟨p1,p2, -, -⟩:=h2.at
 unfold maxLen at q2 p2
 have HA0:Hid (RowQ w g c (midC a b 0)):=by rw [midC_zero];exact h
 have HB0:=Lib.hid h2
 have HW:Hid (∀ k,wentC a b (k+1)=(wentC a b k || ((a.getD k none).isSome && decide (a.getD k none≠b.getD k none)))):=fun k=>wentC_succ a b k
 have HK:Hid (∀ k,k<a.length→(a.getD k none=none∨a.getD k none=b.getD k none)→midC a b (k+1)=midC a b k):=fun k hk he=>midC_keep a b k hk he
 have HNo:Hid (∀ k,k<a.length→a.getD k none≠b.getD k none→midC a b (k+1)=(midC a b k).set k none):=fun k hk he=>midC_none a b k hk he
 have HAT:Hid (∀ k,k<a.length→(midC a b k).getD k none=a.getD k none):=fun k hk=>midC_at a b k hk
 have HLB:=Lib.hid hl
 rw [hl] at p1
 clear h h2 hl
 go_enter Tryz.func90,Tryz.ntmps90
 go_wp2_with fail
 go_loopw [5,9] (fun s i wr=>∃ k:Nat,k≤a.length∧i=.int .i64 (k:Int)∧s=.bool (wentC a b k)∧Hid (RowQ wr g c (midC a b k))∧Hid (RowQ wr g2 c2 b)∧Hid (But g w wr)) (fun _ i _=>a.length-(intOf i).toNat)
 case atStart=>exact ⟨0,Nat.zero_le _,rfl,rfl,HA0,HB0,But.refl _ _⟩
 case round=>
  clear HA0 HB0
  obtain ⟨k,hk,rfl,rfl,HA,HB,HU⟩:=hrel
  by_cases hlt:k<a.length
  ·have g1:decide (k<a.length)=true:=decide_eq_true hlt
   have g2':decide ((k:Int)<(a.length:Int))=true:=decide_eq_true (by omega)
   obtain ⟨a0,a1⟩:=HA.out.at.2.2.1 k (by rw [midC_len];exact hlt)
   obtain ⟨b0,b1⟩:=HB.out.at.2.2.1 k (by rw [HLB.out];exact hlt)
   rw [HAT.out k hlt] at a0 a1
   obtain ⟨hfz,hgl⟩:=HA.out.at.2.2.2 (by rw [midC_len];omega)
   have f0:=hfz (k*2)
   have f1:=hfz (k*2+1)
   have HWk:=Lib.hid (HW.out k)
   have HKk:=Lib.hid (HK.out k hlt)
   have HNk:=Lib.hid (HNo.out k hlt)
   have hml:=midC_len a b k
   have lg2:g2<wr.heap.size:=World.block_lt_of_cell? _ _ b0
   generalize a.getD k none=A at *
   generalize b.getD k none=B at *
   generalize wentC a b k=WW at *
   generalize hMM:midC a b k=MM at *
   clear hMM hfz
   have HML:=Lib.hid hml
   clear hml
   cases A with
   | none=>
    have HE:=Lib.hid (HKk.out (.inl rfl))
    simp only [Option.isSome_none,Option.getD_none] at a0 a1
    obtain ⟨s2,hs2⟩:∃ s,B.isSome=s:=⟨_,rfl⟩
    obtain ⟨x2,hx2⟩:∃ x,B.getD 0=x:=⟨_,rfl⟩
    rw [hs2] at b0
    rw [hx2] at b1
    clear hs2 hx2
    go_wp2_with fail
    go_quiet (fail)
    generalize hW3:World.drewN wr _=W3
    have BD:Below wr.heap.size wr W3:=by rw [←hW3];exact drewN_b (Below.refl _ _) _
    have HA:=Lib.hid (HA.out.below BD)
    have HB:=Lib.hid (HB.out.below BD)
    have HU:=Lib.hid (HU.out.trans (But.below BD))
    clear hW3 BD a0 a1 b0 b1 f0 f1
    go_wp2_with fail
    go_roundw
    case rel=>exact ⟨k+1,hlt,by go_num,by rw [HWk.out];simp,by rw [HE.out];exact HA,HB,HU⟩
    case measure=>simp [intOf];omega
   | some x=>
    simp only [Option.isSome_some,Option.getD_some] at a0 a1
    by_cases hxb:B=some x
    ·have HE:=Lib.hid (HKk.out (.inr hxb.symm))
     subst hxb
     simp only [Option.isSome_some,Option.getD_some] at b0 b1
     go_wp2_with fail
     go_quiet (fail)
     generalize hW3:World.drewN wr _=W3
     have BD:Below wr.heap.size wr W3:=by rw [←hW3];exact drewN_b (Below.refl _ _) _
     have HA:=Lib.hid (HA.out.below BD)
     have HB:=Lib.hid (HB.out.below BD)
     have HU:=Lib.hid (HU.out.trans (But.below BD))
     clear hW3 BD a0 a1 b0 b1 f0 f1
     go_wp2_with fail
     go_roundw
     case rel=>exact ⟨k+1,hlt,by go_num,by rw [HWk.out];simp,by rw [HE.out];exact HA,HB,HU⟩
     case measure=>simp [intOf];omega
    ·have HE:=Lib.hid (HNk.out fun e=>hxb e.symm)
     have hdd:decide (some x≠B)=true:=decide_eq_true fun e=>hxb e.symm
     rw [hdd,Option.isSome_some,Bool.and_true] at HWk
     clear hdd HKk HNk
     cases B with
     | none=>
      simp only [Option.isSome_none,Option.getD_none] at b0 b1
      clear hxb
      go_wp2_with fail
      go_quiet (fail)
      generalize hW3:World.drewN wr _=W3
      have BD:Below wr.heap.size wr W3:=by rw [←hW3];exact drewN_b (Below.refl _ _) _
      have HA:=Lib.hid (HA.out.below BD)
      have HB:=Lib.hid (HB.out.below BD)
      have HU:=Lib.hid (HU.out.trans (But.below BD))
      have a0:W3.cell? ⟨g,k*2,none⟩=_:=(BD.cell (p:=⟨g,k*2,none⟩) hgl).trans a0
      have a1:W3.cell? ⟨g,k*2+1,none⟩=_:=(BD.cell (p:=⟨g,k*2+1,none⟩) hgl).trans a1
      have f0:W3.frozen? ⟨g,k*2,none⟩=false:=(BD.frozen (p:=⟨g,k*2,none⟩) hgl).trans f0
      have f1:W3.frozen? ⟨g,k*2+1,none⟩=false:=(BD.frozen (p:=⟨g,k*2+1,none⟩) hgl).trans f1
      clear hW3 BD b0 b1
      have HA5:=Lib.hid (HA.out.set2 (d:=k) (by rw [HML.out];exact hlt) none)
      have HB5:=Lib.hid ((HB.out.but (But.setCell g (k*2) W3 (.bool false)) (Ne.symm hne)).but (But.setCell g (k*2+1) _ (.int .u32 0)) (Ne.symm hne))
      have HU5:=Lib.hid ((HU.out.trans (But.setCell g (k*2) W3 (.bool false))).trans (But.setCell g (k*2+1) _ (.int .u32 0)))
      simp only [Option.isSome_none,Option.getD_none] at HA5
      go_wp2_with fail
      go_roundw
      case rel=>exact ⟨k+1,hlt,by go_num,by rw [HWk.out,Bool.or_true],by rw [HE.out];exact HA5,HB5,HU5⟩
      case measure=>simp [intOf];omega
     | some y=>
      simp only [Option.isSome_some,Option.getD_some] at b0 b1
      have gxy:(x ==y)=false:=by
       rw [beq_eq_false_iff_ne];intro e;exact hxb (by rw [e])
      clear hxb
      go_wp2_with fail
      go_quiet (fail)
      generalize hW3:World.drewN wr _=W3
      have BD:Below wr.heap.size wr W3:=by rw [←hW3];exact drewN_b (Below.refl _ _) _
      have HA:=Lib.hid (HA.out.below BD)
      have HB:=Lib.hid (HB.out.below BD)
      have HU:=Lib.hid (HU.out.trans (But.below BD))
      have a0:W3.cell? ⟨g,k*2,none⟩=_:=(BD.cell (p:=⟨g,k*2,none⟩) hgl).trans a0
      have a1:W3.cell? ⟨g,k*2+1,none⟩=_:=(BD.cell (p:=⟨g,k*2+1,none⟩) hgl).trans a1
      have f0:W3.frozen? ⟨g,k*2,none⟩=false:=(BD.frozen (p:=⟨g,k*2,none⟩) hgl).trans f0
      have f1:W3.frozen? ⟨g,k*2+1,none⟩=false:=(BD.frozen (p:=⟨g,k*2+1,none⟩) hgl).trans f1
      clear hW3 BD b0 b1
      have HA5:=Lib.hid (HA.out.set2 (d:=k) (by rw [HML.out];exact hlt) none)
      have HB5:=Lib.hid ((HB.out.but (But.setCell g (k*2) W3 (.bool false)) (Ne.symm hne)).but (But.setCell g (k*2+1) _ (.int .u32 0)) (Ne.symm hne))
      have HU5:=Lib.hid ((HU.out.trans (But.setCell g (k*2) W3 (.bool false))).trans (But.setCell g (k*2+1) _ (.int .u32 0)))
      simp only [Option.isSome_none,Option.getD_none] at HA5
      go_wp2_with fail
      go_roundw
      case rel=>exact ⟨k+1,hlt,by go_num,by rw [HWk.out,Bool.or_true],by rw [HE.out];exact HA5,HB5,HU5⟩
      case measure=>simp [intOf];omega
  ·obtain rfl:k=a.length:=by omega
   go_wp2_with fail
   go_ret
   exact ⟨rfl,by rw [←midC_all];exact HA.out,HU.out⟩
end
section
open Go.ChangeShapes Go.WideShapes Go.ChangeAt Go.RowKit
set_option maxHeartbeats 4000000
set_option maxRecDepth 100000
def rowVC (R:Nat):Option (Nat×Nat)→Value
 | none=>.slice none 0 0
 | some x=>.slice (some ⟨x.1,0,none⟩) R x.2
abbrev Tb:=List (Option Ro)
abbrev Rs:=List (Option (Nat×Nat))
def RowIs (w:World) (B R:Nat):Option (Nat×Nat)→Option Ro→Prop
 | none,none=>True
 | some x,some t=>RowQ w x.1 x.2 t∧t.length=R∧RoOk t∧B≤x.1
 | _,_=>False
structure TbC (B:Nat) (w:World) (gt ct:Nat) (rs:Rs) (X:Tb) (R:Nat):Prop where
 len:rs.length=X.length
 tab:w.ownsRow 0 69 1 (.slice (some ⟨gt,0,none⟩) X.length ct) X.length (rs.map (rowVC R))
 row:∀ i,i<X.length→RowIs w B R (rs.getD i none) (X.getD i none)
 inj:∀ i j x y,i≠j→rs.getD i none=some x→rs.getD j none=some y→x.1≠y.1
 gB:B≤gt
theorem RowQ.lt {w:World} {g c:Nat} {t:Ro} (h:RowQ w g c t):g<w.heap.size:=by
 unfold RowQ at h
 obtain ⟨-,⟨h2, -⟩|⟨g',cap,cur,h2, -,hg, -⟩⟩:=h
 ·simp at h2
 ·simp only [Value.slice.injEq,Option.some.injEq,Addr.mk.injEq,and_true,true_and] at h2
  obtain ⟨rfl, -⟩:=h2
  exact (Array.getElem?_eq_some_iff.1 hg).1
theorem RowIs.lt {w:World} {B R:Nat} {x:Nat×Nat} {o:Option Ro} (h:RowIs w B R (some x) o):x.1<w.heap.size:=by
 cases o with
 | none=>exact h.elim
 | some t=>exact h.1.lt
theorem RowQ.ne {w:World} {g c b:Nat} {t:Ro} (h:RowQ w g c t) {cs:Array Value} {ty:TypeId} (hb:w.heap[b]?=some (.cells cs ty)) (hty:ty≠73):g≠b:=by
 have h':=h
 unfold RowQ at h
 obtain ⟨-,⟨h2, -⟩|⟨g',cap,cur,h2, -,hg, -⟩⟩:=h
 ·simp at h2
 ·simp only [Value.slice.injEq,Option.some.injEq,Addr.mk.injEq,and_true,true_and] at h2
  obtain ⟨rfl,rfl⟩:=h2
  intro e
  rw [e,hb] at hg
  simp only [Option.some.injEq,Obj.cells.injEq] at hg
  exact hty hg.2.1
section
variable {B gt ct R:Nat} {w w':World} {rs:Rs} {X:Tb}
theorem TbC.below (h:TbC B w gt ct rs X R) (hb:Below w.heap.size w w'):TbC B w' gt ct rs X R :=
 ⟨h.len,own_below h.tab hb,fun i hi=>by
   have:=h.row i hi
   revert this
   generalize rs.getD i none=r
   generalize X.getD i none=o
   intro this
   match r,o,this with
   | none,none,_=>exact True.intro
   | some x,some t,⟨h1,h2,h3,h4⟩=>exact ⟨h1.below hb,h2,h3,h4⟩
   | none,some _,h=>exact h.elim
   | some _,none,h=>exact h.elim,h.inj,h.gB⟩
theorem TbC.heap (h:TbC B w gt ct rs X R):∃ cur,w.heap[gt]?=some (.cells cur 69):=by
 obtain ⟨-,⟨h2, -⟩|⟨g',cap,cur,h2, -,hg, -⟩⟩:=h.tab
 ·simp at h2
 ·simp only [Value.slice.injEq,Option.some.injEq,Addr.mk.injEq,and_true,true_and] at h2
  obtain ⟨rfl, -⟩:=h2
  exact ⟨cur,hg⟩
theorem TbC.lt (h:TbC B w gt ct rs X R):gt<w.heap.size:=by
 obtain ⟨cur,hg⟩:=h.heap
 exact (Array.getElem?_eq_some_iff.1 hg).1
theorem TbC.cell (h:TbC B w gt ct rs X R) {i:Nat} (hi:i<X.length):w.cell? ⟨gt,i,none⟩=some (rowVC R (rs.getD i none))∧w.frozen? ⟨gt,i,none⟩=false:=by
 obtain ⟨cur,hg⟩:=h.heap
 refine ⟨(World.ownsRow.cellAt h.tab i (by omega)).trans ?_,frozen_of_heap hg i⟩
 have hl:=h.len
 simp [List.getD,List.getElem?_map,List.getElem?_eq_getElem (show i<rs.length by omega)]
theorem TbC.caps (h:TbC B w gt ct rs X R):X.length≤ct∧ct≤maxLen:=by
 obtain ⟨-,⟨h2, -⟩|⟨g',cap,cur,h2, -,hg,hn,hc, -⟩⟩:=h.tab
 ·simp at h2
 ·simp only [Value.slice.injEq,Option.some.injEq,Addr.mk.injEq,and_true,true_and] at h2
  obtain ⟨rfl,rfl⟩:=h2
  exact ⟨hn,hc⟩
theorem TbC.turn (h:TbC B w gt ct rs X R) {i:Nat} (hi:i<X.length) {x:Nat×Nat} (hx:rs.getD i none=some x) {t':Ro} (hq:RowQ w' x.1 x.2 t') (hl:t'.length=R) (ho:RoOk t') (hb:But x.1 w w'):TbC B w' gt ct rs (X.set i (some t')) R:=by
 have hri:=h.row i hi
 rw [hx] at hri
 have hgx:B≤x.1:=by
  cases ho:X.getD i none with
  | none=>rw [ho] at hri;exact hri.elim
  | some t=>rw [ho] at hri;exact hri.2.2.2
 have hxl:=hri.lt
 obtain ⟨cur,hg⟩:=h.heap
 have hgt:gt≠x.1:=by
  cases ho:X.getD i none with
  | none=>rw [ho] at hri;exact hri.elim
  | some t=>rw [ho] at hri;exact Ne.symm (hri.1.ne hg (by decide))
 refine ⟨by simpa using h.len,?_,fun j hj=>?_,h.inj,h.gB⟩
 ·rw [List.length_set]
  exact World.ownsRow.kept h.tab (but_grownK hb) (.inr (by simp only [Value.ownBlock];intro e;exact hgt (Option.some.inj e)))
 ·rw [List.length_set] at hj
  by_cases e:j=i
  ·subst e
   rw [hx]
   have:(X.set j (some t')).getD j none=some t':=by simp [List.getD,hj]
   rw [this]
   exact ⟨hq,hl,ho,hgx⟩
  ·have e1:(X.set i (some t')).getD j none=X.getD j none:=by simp [List.getD,List.getElem?_set,Ne.symm e]
   rw [e1]
   have hrj:=h.row j hj
   have hin:=fun y hy=>h.inj j i y x e hy hx
   revert hrj hin
   generalize rs.getD j none=r
   generalize X.getD j none=o
   intro hrj hin
   match r,o,hrj with
   | none,none,_=>exact True.intro
   | some y,some t,⟨h1,h2,h3,h4⟩=>exact ⟨h1.but hb (hin y rfl),h2,h3,h4⟩
   | none,some _,h=>exact h.elim
   | some _,none,h=>exact h.elim
theorem TbC.put (h:TbC B w gt ct rs X R) {i:Nat} (hi:i<X.length) {x:Nat×Nat} {t':Ro} (hq:RowQ w x.1 x.2 t') (hl:t'.length=R) (ho:RoOk t') (hB:B≤x.1) (hnew:∀ j y,rs.getD j none=some y→y.1≠x.1):TbC B (w.setCell ⟨gt,i,none⟩ (rowVC R (some x))) gt ct (rs.set i (some x)) (X.set i (some t')) R:=by
 have hlen:=h.len
 obtain ⟨cur,hg⟩:=h.heap
 have keep:∀ {g c:Nat} {t:Ro},RowQ w g c t→RowQ (w.setCell ⟨gt,i,none⟩ (rowVC R (some x))) g c t:=fun hq=>hq.but (But.setCell gt i w _) (hq.ne hg (by decide))
 refine ⟨by simpa using hlen,?_,fun j hj=>?_,fun a b y z hab hy hz=>?_,h.gB⟩
 ·rw [List.length_set,List.map_set]
  exact (World.ownsRow.stored h.tab i _).1
 ·rw [List.length_set] at hj
  by_cases e:j=i
  ·subst e
   have e1:(X.set j (some t')).getD j none=some t':=by simp [List.getD,hj]
   have e2:(rs.set j (some x)).getD j none=some x:=by simp [List.getD,hlen,hj]
   rw [e1,e2]
   exact ⟨keep hq,hl,ho,hB⟩
  ·have e1:(X.set i (some t')).getD j none=X.getD j none:=by simp [List.getD,List.getElem?_set,Ne.symm e]
   have e2:(rs.set i (some x)).getD j none=rs.getD j none:=by simp [List.getD,List.getElem?_set,Ne.symm e]
   rw [e1,e2]
   have hrj:=h.row j hj
   revert hrj
   generalize rs.getD j none=r
   generalize X.getD j none=o
   intro hrj
   match r,o,hrj with
   | none,none,_=>exact True.intro
   | some y,some t,⟨h1,h2,h3,h4⟩=>exact ⟨keep h1,h2,h3,h4⟩
   | none,some _,h=>exact h.elim
   | some _,none,h=>exact h.elim
 ·have key:∀ j,j≠i→(rs.set i (some x)).getD j none=rs.getD j none:=fun j e=>by simp [List.getD,List.getElem?_set,Ne.symm e]
  have self:(rs.set i (some x)).getD i none=some x:=by simp [List.getD,hlen,hi]
  by_cases ea:a=i
  ·by_cases eb:b=i
   ·exact absurd (ea.trans eb.symm) hab
   ·rw [ea,self] at hy
    rw [key b eb] at hz
    cases hy
    exact Ne.symm (hnew b z hz)
  ·rw [key a ea] at hy
   by_cases eb:b=i
   ·rw [eb,self] at hz
    cases hz
    exact hnew a y hy
   ·rw [key b eb] at hz
    exact h.inj a b y z hab hy hz
theorem TbC.old (h:TbC B w gt ct rs X R):∀ j y,rs.getD j none=some y→y.1<w.heap.size:=fun j y hy=>by
 by_cases hj:j<X.length
 ·have:=h.row j hj
  rw [hy] at this
  exact this.lt
 ·have hl:=h.len
  have:rs.getD j none=none:=by simp [List.getD,List.getElem?_eq_none (show rs.length≤j by omega)]
  rw [this] at hy;cases hy
end
end
end Go.Proofs.YtkhfddodmjnecaaGreatDoor
